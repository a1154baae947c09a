/- The law 'ColdvolForged'. -/
import Derived.Test.YtloffgoenaomkaaDoorFold34
import Derived.Test.YtloffgoenaomkaaDoorColApart
import Derived.BigRegion
namespace Go.Proofs.YtloffgoenaomkaaDoor.Col
open Go Go.RowKit Mem Pl Disk Crc _root_.Go.Proofs.YtloffgoenaomkaaDoor.Frame Hash Sha
/-- The first loop: objects appended, and told. -/
def FoL (W : World) (l : List (List UInt8)) (a v : Nat) (tv iv : Value) (wr : World) : Prop :=
  ∃ (i : Nat) (F K : Nat → Prop) (pm : PM) (ts : List Ob), i ≤ l.length ∧ i ≤ 7 ∧ iv = .int .i64 (i : Int) ∧ Below W.heap.size W wr ∧ FgS W.heap.size wr F K a v 0 (12 * i) 120 pm tv ts ∧ (∀ o ∈ ts, o.id = [97] ∧ o.fl = false)
/-- Some blocks, put together. -/
def FoA (w : World) (av kv : Value) (wr : World) : Prop :=
  ∃ (k : Nat) (A : Option Addr) (m c : Nat) (bs : List UInt8), k ≤ 8 ∧ kv = .int .i64 (k : Int) ∧ av = .slice A m c ∧ m ≤ 64 * k ∧ Own wr w.heap.size 5 A m c bs ∧ Below w.heap.size w wr
theorem iat_get {w : World} {A : Option Addr} {zs : List Int} (h : IAt w A zs) {i : Nat} {z : Int} (hz : zs[i]? = some z) : ∃ ad, A = some ad ∧ w.cell? (ad.add i) = some (.int .i64 z) := by
  rcases h with h | ⟨ad, hA, hc⟩
  · rw [h] at hz; simp at hz
  · exact ⟨ad, hA, hc i z hz⟩
/-- Is one of the first objects at a place? -/
def hitM (ts : List Ob) (z : Int) (k j : Nat) : Bool := (ts.take j).any fun o => decide ((o.s : Int) = z) && decide (2 + dataN o.b.length = k)
theorem hitM_succ {ts : List Ob} {z : Int} {k j : Nat} {o : Ob} (ho : ts[j]? = some o) : hitM ts z k (j + 1) = (hitM ts z k j || (decide ((o.s : Int) = z) && decide (2 + dataN o.b.length = k))) := by
  unfold hitM
  rw [List.take_add_one, ho, List.any_append]
  simp
theorem hitM_all {ts : List Ob} {z : Int} {k : Nat} (h : hitM ts z k ts.length = false) : ∀ o ∈ ts, ¬ ((o.s : Int) = z ∧ 2 + dataN o.b.length = k) := fun o ho hh => by
  unfold hitM at h
  rw [List.take_length, List.any_eq_false] at h
  exact h o ho (by simp [hh.1, hh.2])
def FoR3 (ws : World) (L : Nat) (iv : Value) (wr : World) : Prop := ∃ z : Int, -1 ≤ z ∧ z ≤ (L : Int) + 1 ∧ iv = .int .i64 z ∧ Below ws.heap.size ws wr
def FoR4 (ws : World) (iv : Value) (wr : World) : Prop := ∃ k : Nat, k ≤ 14 ∧ iv = .int .i64 (k : Int) ∧ Below ws.heap.size ws wr
def FoR5 (ws : World) (ts : List Ob) (z : Int) (k : Nat) (bv jv : Value) (wr : World) : Prop := ∃ j : Nat, j ≤ ts.length ∧ jv = .int .i64 (j : Int) ∧ bv = .bool (hitM ts z k j) ∧ Below ws.heap.size ws wr
set_option maxRecDepth 100000 in
set_option maxHeartbeats 32000000 in
theorem lawForged (A0 A1 : Option Addr) (n0 n1 c0 c1 : Nat) (l0 : List (List UInt8)) (zs : List Int) (W : World) (htb : Tb W.heap.size W) (h0 : RowsAt W A0 l0) (hn0 : l0.length = n0) (h1 : IAt W A1 zs) (hn1 : zs.length = n1)
    (hL0 : ∀ b ∈ l0, b.length ≤ 100000000) (hz : ∀ z ∈ zs, -9223372036854775808 ≤ z ∧ z < 9223372036854775808) :
    Calls Tryd.prog 5 #[.slice A0 n0 c0, .slice A1 n1 c1] W fun e W' => e = .returned (.bool true) ∧ Below W.heap.size W W' := by
  have HT := Lib.hid htb
  have H0 := Lib.hid h0
  have H1 := Lib.hid h1
  have HN := Lib.hid (⟨hn0, hn1, hL0, hz⟩ : _ ∧ _ ∧ _ ∧ _)
  have HSH := Lib.hid (shown_any W htb)
  clear htb h0 h1 hn0 hn1 hL0 hz
  go_enter Tryd.func5, Tryd.ntmps5
  go_wp2_with fail
  refine HSH.out.mono ?_
  rintro e w0 ⟨rfl, hb0⟩
  have HB0 := Lib.hid hb0
  have HMD := Lib.hid (made_tapes (w := w0) (B := W.heap.size) hb0.size (HT.out.below hb0) [120] 1 rfl (by simp) (by omega) (by omega))
  clear hb0 HSH
  go_wp2_with fail
  refine HMD.out.mono ?_
  rintro e w1 ⟨a, F1, pm, rfl, hu, hF, ht, _, _, hb1⟩
  have HUP := Lib.hid hu
  have HTA := Lib.hid (ht 0 120 rfl)
  have HB1 := Lib.hid (HB0.out.trans (hb1.mono HB0.out.size))
  have HOP := Lib.hid (HUP.out.opened HTA.out)
  clear hu hF ht hb1 HMD HB0
  go_wp2_with fail
  refine HOP.out.mono ?_
  rintro e w2 ⟨hb2, v, rfl, hv2, hvb⟩
  have HB2 := Lib.hid (HB1.out.trans (hb2.mono HB1.out.size))
  have HS := Lib.hid (⟨HUP.out.below hb2, hvb, fun h => h.elim, HTA.out, ToldB.nil_ _ _ _ _ _⟩ : FgS W.heap.size w2 F1 (fun _ => False) a v 0 0 120 pm (.slice (some ⟨w2.heap.size, 0, none⟩) 0 0) [])
  clear hb2 hv2 hvb HUP HTA HB1 HOP
  go_wp2_with fail
  have hb3 := below_al' (w := w2) (.cells #[] 57)
  have HB3 := Lib.hid (HB2.out.trans (hb3.mono HB2.out.size))
  have HS3 := Lib.hid (HS.out.below hb3)
  clear hb3 HS HB2
  go_loopw [10, 11] (fun tv iv wr => FoL W l0 a v tv iv wr) (fun _ iv _ => 7 - (intOf iv).toNat)
  case atStart => exact ⟨0, _, _, _, [], Nat.zero_le _, by omega, rfl, HB3.out, HS3.out, fun o h => by cases h⟩
  case round =>
    obtain ⟨i, F, K, pm2, ts, hi, hi7, rfl, hbw, hs, hids⟩ := hrel
    have HBW := Lib.hid hbw
    have HSW := Lib.hid hs
    have HIDS := Lib.hid hids
    have hNB := HBW.out.size
    obtain ⟨AT, cT, rfl⟩ := hs.told.len
    have HTS : Hid (ts.length ≤ 4096) := Lib.hid (by
      obtain ⟨H, ws, _, hp⟩ := hs.tt
      have h1 := Ats.count (obsOf ts)
      have h2 := hp.blen
      have h3 := hp.len
      rw [obsOf_len] at h1
      omega)
    clear hbw hs hids HS3 HB3
    by_cases hgo : i < n0 ∧ i < 7
    · obtain ⟨hlt, hlt7⟩ := hgo
      have hltI : (i : Int) < (n0 : Int) := by omega
      have hlt7I : (i : Int) < 7 := by omega
      obtain ⟨b, hb⟩ : ∃ b, l0[i]? = some b := ⟨_, List.getElem?_eq_getElem (by rw [HN.out.1]; exact hlt)⟩
      have hbl := HN.out.2.2.1 b (List.mem_of_getElem? hb)
      obtain ⟨ad, AB, cb, hA, hcell, hbat, hbc, hbn⟩ := (H0.out.below HBW.out) i b hb
      subst hA
      have HBB : Hid (Hd wr (fun g => F g ∨ K g) AB b) := Lib.hid (by
        obtain ⟨ad', B', c', hA', hc', hb', _⟩ := H0.out i b hb
        injection hA' with hA'
        subst hA'
        have e1 := (HBW.out.cell (cell_lt hc')).trans hc'
        rw [hcell] at e1
        injection e1 with e1
        injection e1 with e1
        subst e1
        exact Hd.arg hb' HBW.out fun g hg => hg.elim (HSW.out.flo g) fun h => (HSW.out.told.sep g h).1)
      have HBC := Lib.hid (⟨hbc, hbn, hbl⟩ : _ ∧ _ ∧ _)
      clear hb hbat hbc hbn hbl
      go_upto_region 13 with fail
      go_cut [87] from 77 to 87 (fun t wc => wc = wr ∧ (t = .bool false ∨ (t = .bool true ∧ i < n1 ∧ ∃ q : Nat, zs[i]? = some (q : Int) ∧ (q : Int) < 9223372036854775808)))
      case first =>
        by_cases hif : i < n1
        · have hifI : (i : Int) < (n1 : Int) := by omega
          have hifd : decide ((i : Int) < (n1 : Int)) = true := decide_eq_true hifI
          obtain ⟨z, hz⟩ : ∃ z, zs[i]? = some z := ⟨_, List.getElem?_eq_getElem (by rw [HN.out.2.1]; exact hif)⟩
          have hzb := HN.out.2.2.2 z (List.mem_of_getElem? hz)
          obtain ⟨adz, hA1, hcz⟩ := iat_get (H1.out.below HBW.out) hz
          subst hA1
          by_cases hz0 : 0 ≤ z
          · obtain ⟨q, rfl⟩ : ∃ q : Nat, z = (q : Int) := ⟨z.toNat, by omega⟩
            have HZ := Lib.hid (⟨hif, hz, hzb.2⟩ : _ ∧ _ ∧ _)
            have hz0I : decide ((0 : Int) ≤ (q : Int)) = true := decide_eq_true hz0
            clear hz0 hzb hif hz
            go_wp2_with fail
            go_meet
            exact ⟨rfl, .inr ⟨rfl, HZ.out.1, q, HZ.out.2.1, HZ.out.2.2⟩⟩
          · have hz0d : decide ((0 : Int) ≤ z) = false := decide_eq_false hz0
            have hz0e : ¬ (z ≥ 0) := hz0
            clear hif hz hzb
            go_wp2_with fail
            go_meet
            exact ⟨rfl, .inl rfl⟩
        · have hifI : ¬ (i : Int) < (n1 : Int) := by omega
          have hifd : decide ((i : Int) < (n1 : Int)) = false := decide_eq_false hifI
          clear hif
          go_wp2_with fail
          go_meet
          exact ⟨rfl, .inl rfl⟩
      case rest =>
        obtain ⟨rfl, hcut⟩ := hcut
        have HCUT := Lib.hid hcut
        clear hcut
        go_upto_if 87 with fail
        go_cut [12, 13, 14, 15, 16, 17] from 87 to 125 (fun bv _ _ _ _ _ wd => ∃ A m c bs, bv = .slice A m c ∧ bs.length = m ∧ m ≤ c ∧ (A = none → c = 0) ∧ m ≤ 100000600 ∧ Hd wd (fun g => F g ∨ K g) A bs ∧ Below wc.heap.size wc wd)
        case first =>
          rcases HCUT.out with rfl | ⟨rfl, hif, q, hz, hq63⟩
          · go_wp2_with fail
            go_meet
            exact ⟨AB, b.length, cb, b, rfl, rfl, HBC.out.1, HBC.out.2.1, by have := HBC.out.2.2; omega, HBB.out, Below.refl _ _⟩
          · have HIF := Lib.hid hif
            have HZ := Lib.hid hz
            clear hq63
            obtain ⟨adz, hA1, hcz⟩ := iat_get (H1.out.below HBW.out) hz
            subst hA1
            clear hif hz hcz
            go_wp2_with fail
            clear hcell
            go_loopw [13, 14] (fun av kv wr2 => FoA wc av kv wr2) (fun _ kv _ => 8 - (intOf kv).toNat)
            case atStart => exact ⟨0, _, 0, 0, [], by omega, rfl, rfl, Nat.zero_le _, Own.new wc _ _ rfl (Nat.le_refl _) (by rfl) rfl (by decide), below_al' _⟩
            case round =>
              obtain ⟨k, A, m, c, bs, hk, rfl, rfl, hm, ho, hb2⟩ := hrel
              have HO := Lib.hid ho
              have HB2 := Lib.hid hb2
              obtain ⟨adz', hA1', hcz⟩ := iat_get ((H1.out.below HBW.out).below hb2) HZ.out
              injection hA1' with hA1'
              subst hA1'
              clear ho hb2
              by_cases hk8 : k < 8
              · have hk8I : (k : Int) < 8 := by omega
                have hrem : ((q : Int)).tmod 40 = ((q % 40 : Nat) : Int) := by
                  rw [IntWalk.rem_in _ _ (by omega)]
                  omega
                obtain ⟨r, hr⟩ : ∃ r, q % 40 = r := ⟨_, rfl⟩
                have hr40 : r < 40 := by omega
                rw [hr] at hrem
                have hw1 : IntKind.i64.wrap (r : Int) = (r : Int) := IntWalk.i64_in _ (by omega)
                have hw2 : IntKind.i64.wrap ((r : Int) + (k : Int)) = ((r + k : Nat) : Int) := by rw [show (r : Int) + (k : Int) = ((r + k : Nat) : Int) by omega]; exact IntWalk.i64_in _ (by omega)
                have hw3 : IntKind.i64.wrap ((k : Int) + 1) = (k : Int) + 1 := IntWalk.i64_in _ (by omega)
                have HPR := Lib.hid ((HSW.out.up.below HB2.out).pread HSW.out.tt (by omega) ((r : Int) + (k : Int)))
                have hw4 : IntKind.i64.wrap ((r : Int) + (k : Int)) = (r : Int) + (k : Int) := IntWalk.i64_in _ (by omega)
                clear hr hw2
                go_wp2_with fail
                refine HPR.out.mono ?_
                rintro e w5 ⟨A2, m2, c2, b2, err, rfl, hl2, hm2, hh2, hb5⟩
                have HB5 := Lib.hid (HB2.out.trans (hb5.mono HB2.out.size))
                have HO5 := Lib.hid (HO.out.below hb5)
                have HH5 := Lib.hid (⟨hh2.1, hl2⟩ : _ ∧ _)
                clear hh2 hb5 HPR hl2
                by_cases he : err = 0
                · subst he
                  go_wp2_with
                    (refine wpList_append_bytes rfl (.tmp 107) (.tmp 108) _ rfl wc.heap.size _ Pl.byteTy A m c bs rfl HO5.out A2 m2 c2 b2 rfl HH5.out.1 HH5.out.2 (m + m2) rfl (by omega) HB5.out.size ?_
                     intro A6 c6 w6 ho6 hg6 hb6 hA6
                     have HO6 := Lib.hid ho6
                     have HB6 := Lib.hid (HB5.out.trans hb6)
                     clear ho6 hg6 hb6 hA6)
                  go_roundw
                  case rel => exact ⟨k + 1, A6, m + m2, c6, _, by omega, by simp, rfl, by omega, HO6.out, HB6.out⟩
                  case measure => simp [intOf]; omega
                · have he1 : (err == 0) = false := by simpa using he
                  go_wp2_with fail
                  go_roundw
                  case rel => exact ⟨k + 1, A, m, c, bs, by omega, by simp, rfl, by omega, HO5.out, HB5.out⟩
                  case measure => simp [intOf]; omega
              · have hk8I : ¬ (k : Int) < 8 := by omega
                have hrem : ((q : Int)).tmod 9 = ((q % 9 : Nat) : Int) := by
                  rw [IntWalk.rem_in _ _ (by omega)]
                  omega
                obtain ⟨r, hr⟩ : ∃ r, q % 9 = r := ⟨_, rfl⟩
                have hr9 : r < 9 := by omega
                rw [hr] at hrem
                have hw1 : IntKind.i64.wrap (r : Int) = (r : Int) := IntWalk.i64_in _ (by omega)
                have hm5 : m ≤ 512 := by omega
                have hlen := HO.out.len
                clear hr hk hm
                by_cases hrm : r ≤ m
                · have hrmI : (r : Int) ≤ (m : Int) := by omega
                  have hcut := fun W => run_cut_l (P := Tryd.prog) 38 5 Pl.byteTy A m c .i64 (r : Int) r rfl hrm W
                  have hsz := HB2.out.size
                  have HBATC := Lib.hid ((BAt.cut HO.out.bat c r (by rw [hlen]; exact HO.out.cap_le.1)).below (below_al' (w := wr) (.cells #[] 5)))
                  have HLN := Lib.hid (show (bs.drop r).length = m - r by rw [List.length_drop, hlen])
                  have HB3 := Lib.hid (HBB.out.below HB2.out)
                  clear hlen
                  go_wp2_with (first
                    | (at_builtin
                       refine wpList_append_bytes rfl (.tmp 119) (.tmp 122) _ rfl wc.heap.size _ Pl.byteTy _ 0 0 [] rfl (Own.new wr _ _ rfl hsz (by rfl) rfl (by decide)) (cutA A c r) (m - r) (c - r) (bs.drop r) rfl HBATC.out HLN.out (m - r) (Nat.zero_add _) (by omega) (by simp; omega) ?_
                       intro A6 c6 w6 ho6 hg6 hb6 hA6
                       have HO6 := Lib.hid ho6
                       have HB6 := Lib.hid ((HB2.out.alloc hsz _).trans hb6)
                       clear ho6 hg6 hb6 hA6)
                    | (at_builtin
                       refine wpList_append_bytes rfl (.tmp 123) (.tmp 124) _ rfl wc.heap.size _ Pl.byteTy A6 (m - r) c6 _ rfl HO6.out AB b.length cb b rfl (HBB.out.below HB6.out).bat rfl (m - r + b.length) rfl (by have := HBC.out.2.2; omega) HB6.out.size ?_
                       intro A7 c7 w7 ho7 hg7 hb7 hA7
                       have HO7 := Lib.hid ho7
                       have HB7 := Lib.hid (HB6.out.trans hb7)
                       clear ho7 hg7 hb7 hA7))
                  go_meet
                  refine ⟨A7, m - r + b.length, c7, _, rfl, HO7.out.len, HO7.out.cap_le.1, ?_, by have := HBC.out.2.2; omega, Hd.of_own HO7.out fun g hg => HSW.out.fk g hg, HB7.out⟩
                  intro h0
                  rcases HO7.out.form with ⟨_, _, h⟩ | ⟨g, h, _⟩
                  · exact h
                  · rw [h0] at h; cases h
                · have hrmI : ¬ (r : Int) ≤ (m : Int) := by omega
                  clear hlen
                  go_wp2_with fail
                  go_meet
                  exact ⟨AB, b.length, cb, b, rfl, rfl, HBC.out.1, HBC.out.2.1, by have := HBC.out.2.2; omega, HBB.out.below HB2.out, HB2.out⟩
        case rest =>
          obtain ⟨A, m, c, bs, rfl, hlm, hmc, hnil, hm8, hhd, hbd⟩ := hcut
          have HS2 := Lib.hid (HSW.out.below hbd)
          have HB2 := Lib.hid (HBW.out.trans (hbd.mono hNB))
          have HHD := Lib.hid (⟨hlm, hmc, hnil, hhd⟩ : _ ∧ _ ∧ _ ∧ _)
          clear hlm hmc hnil hhd hbd HCUT HBB HBC
          go_upto_if 128 with fail
          go_cut [12] from 128 to 130 (fun bv wd => ∃ m' bs', bv = .slice A m' c ∧ bs'.length = m' ∧ m' ≤ c ∧ m' ≤ 512 ∧ Hd wd (fun g => F g ∨ K g) A bs' ∧ wd = wc)
          case first =>
            by_cases h5 : 512 < m
            · have h5I : (512 : Int) < (m : Int) := by omega
              have h5d : decide ((512 : Int) < (m : Int)) = true := decide_eq_true h5I
              have hcut := fun W => run_cut_h (P := Tryd.prog) 38 5 Pl.byteTy A m c .i64 512 512 rfl (by have := HHD.out.2.1; omega) W
              clear h5
              go_wp2_with fail
              go_meet
              refine ⟨512, bs.take 512, rfl, by rw [List.length_take, HHD.out.1]; omega, by have := HHD.out.2.1; omega, Nat.le_refl _, ?_, rfl⟩
              rcases HHD.out.2.2.2 with h | h
              · exact .inl (by rw [h]; rfl)
              · exact .inr ⟨h.1.take 512, h.2⟩
            · have h5I : ¬ (512 : Int) < (m : Int) := by omega
              have h5d : decide ((512 : Int) < (m : Int)) = false := decide_eq_false h5I
              have h5n : m ≤ 512 := by omega
              clear h5
              go_wp2_with fail
              go_meet
              exact ⟨m, bs, rfl, HHD.out.1, HHD.out.2.1, h5n, HHD.out.2.2.2, rfl⟩
          case rest =>
            obtain ⟨m5, b5, rfl, hl5, hc5, h512, hhd5, rfl⟩ := hcut
            have HAP := Lib.hid (HS2.out.append (by omega) [97] (by decide) A m5 c b5 hhd5 hl5 hc5 (by omega) HHD.out.2.2.1)
            obtain ⟨xx, xy, xz, hx, hy0, hy1, hx0⟩ := xA_pc 0 120 (obsOf ts) none [97] b5
            have hml := mayT_le 120 (obsOf ts) none [97] b5
            rw [hx] at HAP
            obtain ⟨mt, hmt⟩ : ∃ mt, mayT 120 (obsOf ts) none [97] b5 = mt := ⟨_, rfl⟩
            rw [hmt] at HAP hml hx0
            have HOA : Hid (osA 120 (obsOf ts) none [97] b5 = if mt = 0 then obsOf ts ++ [((layB (obsOf ts)).length, [97], b5)] else obsOf ts) := Lib.hid (by unfold osA; rw [hmt])
            have HX0 := Lib.hid (⟨hx0, hl5⟩ : _ ∧ _)
            have hi1 : IntKind.i64.wrap ((i : Int) + 1) = (i : Int) + 1 := IntWalk.i64_in _ (by omega)
            clear hx hx0 hmt hhd5 hl5
            go_wp2_with fail
            refine HAP.out.mono ?_
            rintro e w6 ⟨F6, pm6, hb6, hu6, hv6, ht6, htd6, hh6, rfl⟩
            have HB6 := Lib.hid (HB2.out.trans hb6)
            have H6 := Lib.hid (⟨hu6, hv6, ht6, htd6, hh6⟩ : _ ∧ _ ∧ _ ∧ _ ∧ _)
            clear hb6 hu6 hv6 ht6 htd6 hh6 HAP
            by_cases hm0 : mt = 0
            · subst hm0
              obtain ⟨rfl, rfl, rfl⟩ := HX0.out.1 rfl
              have HO : Hid (osA 120 (obsOf ts) none [97] b5 = obsOf (ts ++ [⟨(layB (obsOf ts)).length, [97], b5, false⟩])) := Lib.hid (by rw [HOA.out, if_pos rfl, obsOf_snoc])
              have hl5 := HX0.out.2
              subst hl5
              obtain ⟨LB, hLB⟩ : ∃ LB, (layB (obsOf ts)).length = LB := ⟨_, rfl⟩
              obtain ⟨XZ, hXZ⟩ : ∃ XZ, 2 + dataN b5.length = XZ := ⟨_, rfl⟩
              rw [hLB] at HO hy0 hy1
              have HLX := Lib.hid (⟨hLB, hXZ⟩ : _ ∧ _)
              rw [hLB, hXZ, show ((0 : Nat) : Int) = 0 from rfl]
              clear hLB hXZ HOA HX0
              go_wp2_with
                (refine wpList_store_all rfl 35 (.tmp 18) (.tmp 135) rfl w6.heap.size 35 (pcV 0 0 0) (pcV 0 (LB : Int) (XZ : Int)) rfl rfl (Blk.new w6 _ _) rfl (by kernel_rfl) (pcV_one _ _ _) ?_
                 intro w7 hb7 hg7 hz7
                 have p0 := hb7.cell 0
                 have p1 := hb7.cell 1
                 have p2 := hb7.cell 2
                 have p3 := hb7.cell 3
                 simp [pcV] at p0 p1 p2 p3
                 have HBW7 := Lib.hid ((below_al' (w := w6) (.cells (pcV 0 0 0).toArray 35)).grown hg7 (by simp) (fun k hk => by injection hk with hk; omega))
                 clear hb7 hg7 hz7
                 have hb8 : Below w6.heap.size w6 (w7.alloc (.cells #[.string ⟨#[97]⟩, .slice A b5.length c, .int .i64 0, .int .i64 (LB : Int), .int .i64 (XZ : Int), .bool false, .bool false] 57)) := HBW7.out.alloc HBW7.out.size _
                 have H8 := Lib.hid (⟨H6.out.1.below hb8, H6.out.2.1.below hb8, H6.out.2.2.1, H6.out.2.2.2.1.below hb8, H6.out.2.2.2.2.below hb8⟩ : _ ∧ _ ∧ _ ∧ _ ∧ _)
                 have HB8 := Lib.hid hb8
                 have HNW : Hid (Blk (w7.alloc (.cells #[.string ⟨#[97]⟩, .slice A b5.length c, .int .i64 0, .int .i64 (LB : Int), .int .i64 (XZ : Int), .bool false, .bool false] 57)) w7.heap.size 57 (objRow 0 ⟨LB, [97], b5, false⟩ A c).toArray) := Lib.hid (by
                   have h9 := Blk.new w7 57 (objRow 0 ⟨LB, [97], b5, false⟩ A c).toArray
                   rw [show objRow 0 ⟨LB, [97], b5, false⟩ A c = [.string ⟨#[97]⟩, .slice A b5.length c, .int .i64 0, .int .i64 (LB : Int), .int .i64 (XZ : Int), .bool false, .bool false] by rw [← HLX.out.2]; rfl] at h9 ⊢
                   exact h9)
                 obtain ⟨hsep, rs, hvr, hlr, hrr⟩ := H8.out.2.2.2.1
                 have HR := Lib.hid (⟨hsep, hvr, hlr, hrr⟩ : _ ∧ _ ∧ _ ∧ _)
                 have hts : ts.length ≤ 4096 := HTS.out
                 clear hb8 hsep hvr hlr hrr
                 go_wp2_with
                   (refine wpList_append_vec rfl (.tmp 139) (.tmp 143) _ rfl 80 _ objTy rfl HR.out.2.1 ⟨w7.heap.size, 0, none⟩ 1 1 (objRow 0 ⟨LB, [97], b5, false⟩ A c) rfl rfl (blk_news HNW.out) (objRow_one _ _ _ _) ?c1 ?c2 ?_
                    case c1 => unfold maxLen; omega
                    case c2 => omega
                    intro v9 w9 row hv9 hg9 hr9
                    obtain ⟨A9, c9, rfl⟩ := hv9.shape
                    obtain ⟨hfg, hbw9⟩ := FgS.told_ (o := ⟨LB, [97], b5, false⟩) (N := 120) H8.out.1 H8.out.2.1 HSW.out.kv (by have h1 := H8.out.2.2.1; rw [HO.out] at h1; exact h1) HR.out.1 HR.out.2.2.1 HR.out.2.2.2 H8.out.2.2.2.2 hv9 hg9 hr9
                    have HFG := Lib.hid hfg
                    have HB9 := Lib.hid ((HB6.out.trans (HB8.out.mono HB6.out.size)).trans hbw9)
                    clear hv9 hg9 hr9 hfg hbw9))
              go_roundw
              case rel => exact ⟨i + 1, F6, _, pm6, _, by have := HN.out.1; omega, hlt7, by simp, HB9.out, HFG.out.more (by omega), fun o ho => by
                rcases List.mem_append.1 ho with ho | ho
                · exact HIDS.out o ho
                · rw [List.mem_singleton.1 ho]; exact ⟨rfl, rfl⟩⟩
              case measure => simp [intOf]; omega
            · have hm1 : ((mt : Int) == 0) = false := by simpa using hm0
              have hm2 : ¬ (mt : Int) = 0 := by omega
              go_wp2_with
                (refine wpList_store_all rfl 35 (.tmp 18) (.tmp 135) rfl w6.heap.size 35 (pcV 0 0 0) (pcV xx xy xz) rfl rfl (Blk.new w6 _ _) rfl (by kernel_rfl) (pcV_one _ _ _) ?_
                 intro w7 hb7 hg7 hz7
                 have HBW7 := Lib.hid ((below_al' (w := w6) (.cells (pcV 0 0 0).toArray 35)).grown hg7 (by simp) (fun k hk => by injection hk with hk; omega))
                 clear hb7 hg7 hz7)
              have HS7 : Hid (FgS W.heap.size w6 F6 K a v 0 (12 * i + 12) 120 pm6 (.slice AT ts.length cT) ts) := Lib.hid ⟨H6.out.1, H6.out.2.1, HSW.out.kv, by have h1 := H6.out.2.2.1; rw [HOA.out, if_neg hm0] at h1; exact h1, H6.out.2.2.2.1⟩
              go_roundw
              case rel => exact ⟨i + 1, F6, K, pm6, ts, by have := HN.out.1; omega, hlt7, by simp, HB6.out.trans (HBW7.out.mono HB6.out.size), (HS7.out.below HBW7.out).more (by omega), HIDS.out⟩
              case measure => simp [intOf]; omega
    · have hex : ((i : Int) < (n0 : Int) ∧ ¬ (i : Int) < 7) ∨ ¬ (i : Int) < (n0 : Int) := by have := HN.out.1; omega
      have HI7 := Lib.hid hi7
      clear hgo hi hi7
      rcases hex with ⟨hltI, hge⟩ | hltI
      all_goals
        have HFL := Lib.hid (HSW.out.up.flush HSW.out.tt HSW.out.vb (by have := HI7.out; omega))
        go_wp2_with fail
        refine HFL.out.mono ?_
        rintro e w6 ⟨F6, pm6, hf6, hu6, hv6, ht6, rfl⟩
        have HS6 : Hid (FgS W.heap.size w6 F6 K a v 0 (12 * i + 1) 120 pm6 (.slice AT ts.length cT) ts) := Lib.hid ⟨hu6, hv6, HSW.out.kv, ht6, HSW.out.told.frm hf6⟩
        have HB6 := Lib.hid (HBW.out.trans (hf6.low HSW.out.flo HSW.out.up.bs))
        have HLN := Lib.hid (hu6.plen ht6 (by have := HI7.out; omega))
        obtain ⟨L, hL⟩ : ∃ L, lenT (obsOf ts) none = L := ⟨_, rfl⟩
        have hL4 : L ≤ 4096 := by
          obtain ⟨H, ws, _, hp⟩ := ht6
          rw [← hL, ← hp.lenT]
          exact hp.len
        rw [hL] at HLN
        clear hf6 hu6 hv6 ht6 HFL hL
        go_wp2_with fail
        refine HLN.out.mono ?_
        rintro e w7 ⟨rfl, hb7⟩
        have HS7 := Lib.hid (HS6.out.below hb7)
        have HB7 := Lib.hid (HB6.out.trans (hb7.mono HS6.out.up.bs))
        clear hb7 HLN HS6 HB6
        go_wp2_with fail
        go_loopw [23] (fun iv wr => FoR3 w7 L iv wr) (fun iv _ => (L + 2 - intOf iv).toNat)
        case atStart => exact ⟨-1, by omega, by omega, rfl, Below.refl _ _⟩
        case round =>
          obtain ⟨z, hz0, hz1, rfl, hb8⟩ := hrel
          have HB8 := Lib.hid hb8
          have hzw : IntKind.i64.wrap (z + 1) = z + 1 := IntWalk.i64_in _ (by omega)
          clear hb8
          by_cases hzL : z ≤ (L : Int)
          · have hzL1 : z + 1 ≤ (L : Int) + 1 := by omega
            go_wp2_with fail
            go_loopw [24] (fun iv wr => FoR4 w7 iv wr) (fun iv _ => 14 - (intOf iv).toNat)
            case atStart => exact ⟨0, by omega, rfl, HB8.out⟩
            case round =>
              obtain ⟨k, hk, rfl, hb9⟩ := hrel
              have HB9 := Lib.hid hb9
              have HS9 := Lib.hid (HS7.out.below hb9)
              clear hb9
              by_cases hk14 : k < 14
              · have hkI : (k : Int) < 14 := by omega
                have hkw : IntKind.i64.wrap ((k : Int) + 1) = (k : Int) + 1 := IntWalk.i64_in _ (by omega)
                rename_i wr9
                go_wp2_with
                  (refine wpList_store_all rfl 35 (.tmp 25) (.tmp 165) rfl wr.heap.size 35 (pcV 0 0 0) (pcV 0 z (k : Int)) rfl rfl (Blk.new wr _ _) rfl (by kernel_rfl) (pcV_one _ _ _) ?_
                   intro w10 hb10 hg10 hz10
                   have p0 := hb10.cell 0
                   have p1 := hb10.cell 1
                   have p2 := hb10.cell 2
                   have p3 := hb10.cell 3
                   simp [pcV] at p0 p1 p2 p3
                   have HBW10 := Lib.hid ((below_al' (w := wr) (.cells (pcV 0 0 0).toArray 35)).grown hg10 (by simp) (fun k hk => by injection hk with hk; omega))
                   have HX10 := Lib.hid hb10
                   clear hb10 hg10 hz10)
                have HS10 := Lib.hid (HS9.out.below HBW10.out)
                have HB10 := Lib.hid (HB9.out.trans (HBW10.out.mono HB9.out.size))
                have HRD := Lib.hid (HS10.out.up.read HS10.out.tt HS10.out.vb (by have := HI7.out; omega) 0 z (k : Int) false (by omega))
                clear HBW10 HS9 HB9 p0 p1 p2 p3
                refine HRD.out.mono ?_
                rintro e w11 ⟨o, hans, hb11, hr⟩
                have HS11 := Lib.hid (HS10.out.below hb11)
                have HB11 := Lib.hid (HB10.out.trans (hb11.mono HB10.out.size))
                have HX11 := Lib.hid (HX10.out.below_ hb11)
                obtain ⟨S, A, m, cp, err, rfl, hhit, hno⟩ : ∃ S A m cp err, e = .returned (.tuple #[.string S, .slice A m cp, .int .i64 err]) ∧
                    (∀ o' ∈ ts, (o'.s : Int) = z → 2 + dataN o'.b.length = k → err = 0 ∧ S = ⟨#[97]⟩ ∧ BAt w11 A o'.b ∧ o'.b.length = m) ∧ ((∀ o' ∈ ts, ¬ ((o'.s : Int) = z ∧ 2 + dataN o'.b.length = k)) → err = 4) := by
                  have hyes : ∀ o' ∈ ts, (o'.s : Int) = z → 2 + dataN o'.b.length = k → o = some (o'.id, o'.b) := fun o' ho' h1 h2 =>
                    (hans o'.id o'.b).2 ⟨rfl, by omega, o'.s, List.mem_map.2 ⟨o', ho', rfl⟩, h1.symm⟩
                  rcases hr with ⟨h, he⟩ | ⟨id, A, m, cp, b, h, he, hown⟩
                  · exact ⟨_, _, _, _, _, he, (fun o' ho' h1 h2 => by have := hyes o' ho' h1 h2; rw [h] at this; cases this), fun _ => rfl⟩
                  · refine ⟨_, _, _, _, _, he, fun o' ho' h1 h2 => ?_, fun hn => ?_⟩
                    · have h3 := hyes o' ho' h1 h2
                      rw [h] at h3
                      injection h3 with h3
                      injection h3 with h4 h5
                      subst h5
                      rw [h4, (HIDS.out o' ho').1]
                      exact ⟨rfl, rfl, hown.bat, hown.len⟩
                    · obtain ⟨_, h3, s, h4, h5⟩ := (hans id b).1 h
                      obtain ⟨o', ho', h6⟩ := List.mem_map.1 h4
                      injection h6 with h6 h7
                      injection h7 with h7 h8
                      exact absurd ⟨by rw [h6]; exact h5.symm, by rw [h8]; omega⟩ (hn o' ho')
                have HHIT := Lib.hid (⟨hhit, hno⟩ : _ ∧ _)
                clear hhit hno hans hr hb11 HRD HS10 HB10 HX10
                go_wp2_with fail
                go_loopw [29, 30] (fun bv jv wr => FoR5 w11 ts z k bv jv wr) (fun _ jv _ => ts.length - (intOf jv).toNat)
                case atStart => exact ⟨0, Nat.zero_le _, rfl, by simp [hitM], Below.refl _ _⟩
                case round =>
                  obtain ⟨j, hj, rfl, rfl, hb12⟩ := hrel
                  have HB12 := Lib.hid hb12
                  by_cases hjl : j < ts.length
                  · have hjI : (j : Int) < (ts.length : Int) := by omega
                    obtain ⟨o', ho'⟩ : ∃ o', ts[j]? = some o' := ⟨_, List.getElem?_eq_getElem hjl⟩
                    have hmem := List.mem_of_getElem? ho'
                    have htt := HS11.out.told.below hb12
                    obtain ⟨g2, A', c', hA2, hr2, hhd2⟩ := htt.cells ho'
                    subst hA2
                    have hsucc := hitM_succ (z := z) (k := k) ho'
                    have hr3 : wr.rangeAt g2 (j * 7 + 2) [.int .i64 0, .int .i64 (o'.s : Int), .int .i64 ((2 + dataN o'.b.length : Nat) : Int), .bool false] := fun q u hu => by
                      have hq : q < 4 := (List.getElem?_eq_some_iff.1 hu).1
                      rw [Nat.add_assoc]
                      refine hr2 (2 + q) u ?_
                      unfold objRow
                      match q, hq with
                      | 0, _ => exact hu
                      | 1, _ => exact hu
                      | 2, _ => exact hu
                      | 3, _ => exact hu
                    have cB : wr.cell? ⟨g2, j * 7 + 1, none⟩ = some (.slice A' o'.b.length c') := hr2 1 _ rfl
                    have hx12 := HX11.out.below_ hb12
                    have hrx : wr.rangeAt _ 0 [.int .i64 0, .int .i64 z, .int .i64 (k : Int), .bool false] := fun q u hu => by
                      rw [Nat.zero_add, hx12.cell]
                      simpa [pcV] using hu
                    have hjw : IntKind.i64.wrap ((j : Int) + 1) = (j : Int) + 1 := IntWalk.i64_in _ (by have := HTS.out; omega)
                    obtain ⟨h, hh⟩ : ∃ h, hitM ts z k j = h := ⟨_, rfl⟩
                    rw [hh] at hsucc ⊢
                    have HIT2 := Lib.hid (HHIT.out.1 o' hmem)
                    have HSU := Lib.hid hsucc
                    have HRG := Lib.hid (⟨hr3, hrx⟩ : _ ∧ _)
                    have HHD2 := Lib.hid hhd2
                    obtain ⟨LL, hLL⟩ : ∃ LL, 2 + dataN o'.b.length = LL := ⟨_, rfl⟩
                    rw [hLL] at HIT2 HSU HRG
                    obtain ⟨SS, hSS⟩ : ∃ SS, o'.s = SS := ⟨_, rfl⟩
                    rw [hSS] at HIT2 HSU HRG
                    clear hsucc hr2 hr3 hhd2 hrx hx12 htt hmem hh hLL hSS ho' hj hb12
                    by_cases hsz : (SS : Int) = z
                    · by_cases hlk : LL = k
                      · obtain ⟨rfl, rfl, hbt, hbl⟩ := HIT2.out hsz hlk
                        subst hsz hlk
                        have t1 := run_toString (P := Tryd.prog) Pl.byteTy strTy (w := wr.drew.drew) (bs := o'.b) cp (show BAt wr A o'.b from hbt.below HB12.out) hbl
                        have t2 := run_toString (P := Tryd.prog) Pl.byteTy strTy (w := wr.drew.drew) (bs := o'.b) c' (show BAt wr A' o'.b from HHD2.out.bat) hbl
                        generalize (⟨o'.b.toArray⟩ : ByteArray) = s7 at t1 t2
                        clear hbt
                        go_wp2_with fail
                        refine Ord.region_ord [] [0, 1, 2, 3, 4, 5, 6] (by kernel_rfl) (by kernel_rfl) (by kernel_rfl) (by kernel_rfl) (Ord.ord_all [_, _, _, _, _, _, _] rfl (by kernel_rfl) ?_)
                        go_wp2_with
                          (refine wpList_load_mid rfl 35 (.tmp 182) rfl g2 (j * 7 + 2) rfl _ _ (show wr.drew.rangeAt g2 (j * 7 + 2) _ from HRG.out.1) Tryd.underlying35 rfl (by kernel_rfl) ?_
                           go_wp2_with
                             (refine wpList_load_mid rfl 35 (.tmp 25) rfl _ 0 rfl _ _ (show wr.drew.rangeAt _ 0 _ from HRG.out.2) Tryd.underlying35 rfl (by kernel_rfl) ?_))
                        refine Ord.nx_end ?_
                        go_wp2_with fail
                        go_region
                        go_wp2_with fail
                        go_roundw
                        case rel => exact ⟨j + 1, hjl, by simp, by rw [HSU.out]; simp, HB12.out.trans (below_drewN (Below.refl _ _) 2 |>.mono HB12.out.size)⟩
                        case measure => simp [intOf]; omega
                      · subst hsz
                        have hl1 : ((LL : Int) == (k : Int)) = false := by simp; omega
                        have hl2 : ¬ (LL : Int) = (k : Int) := by omega
                        have HLK := Lib.hid hlk
                        clear hlk
                        go_wp2_with fail
                        refine Ord.region_ord [] [0, 1, 2, 3, 4, 5, 6] (by kernel_rfl) (by kernel_rfl) (by kernel_rfl) (by kernel_rfl) (Ord.ord_all [_, _, _, _, _, _, _] rfl (by kernel_rfl) ?_)
                        go_wp2_with
                          (refine wpList_load_mid rfl 35 (.tmp 182) rfl g2 (j * 7 + 2) rfl _ _ (show wr.drew.rangeAt g2 (j * 7 + 2) _ from HRG.out.1) Tryd.underlying35 rfl (by kernel_rfl) ?_
                           go_wp2_with
                             (refine wpList_load_mid rfl 35 (.tmp 25) rfl _ 0 rfl _ _ (show wr.drew.rangeAt _ 0 _ from HRG.out.2) Tryd.underlying35 rfl (by kernel_rfl) ?_))
                        refine Ord.nx_end ?_
                        go_wp2_with fail
                        go_roundw
                        case rel => exact ⟨j + 1, hjl, by simp, by rw [HSU.out]; simp [HLK.out], HB12.out.trans (below_drewN (Below.refl _ _) 1 |>.mono HB12.out.size)⟩
                        case measure => simp [intOf]; omega
                    · have hs1 : ((SS : Int) == z) = false := by simpa using hsz
                      have HSZ := Lib.hid hsz
                      go_wp2_with fail
                      refine Ord.region_ord [] [0, 1, 2, 3, 4, 5, 6] (by kernel_rfl) (by kernel_rfl) (by kernel_rfl) (by kernel_rfl) (Ord.ord_all [_, _, _, _, _, _, _] rfl (by kernel_rfl) ?_)
                      go_wp2_with
                        (refine wpList_load_mid rfl 35 (.tmp 182) rfl g2 (j * 7 + 2) rfl _ _ (show wr.drew.rangeAt g2 (j * 7 + 2) _ from HRG.out.1) Tryd.underlying35 rfl (by kernel_rfl) ?_
                         go_wp2_with
                           (refine wpList_load_mid rfl 35 (.tmp 25) rfl _ 0 rfl _ _ (show wr.drew.rangeAt _ 0 _ from HRG.out.2) Tryd.underlying35 rfl (by kernel_rfl) ?_))
                      refine Ord.nx_end ?_
                      go_wp2_with fail
                      go_roundw
                      case rel => exact ⟨j + 1, hjl, by simp, by rw [HSU.out]; simp [HSZ.out], HB12.out.trans (below_drewN (Below.refl _ _) 1 |>.mono HB12.out.size)⟩
                      case measure => simp [intOf]; omega
                  · have hjI : ¬ (j : Int) < (ts.length : Int) := by omega
                    obtain rfl : j = ts.length := by omega
                    obtain ⟨h, hh⟩ : ∃ h, hitM ts z k ts.length = h := ⟨_, rfl⟩
                    rw [hh]
                    have HRW : Hid (FoR4 w7 (.int .i64 ((k : Int) + 1)) wr) := Lib.hid ⟨k + 1, hk14, by simp, HB11.out.trans (hb12.mono HB11.out.size)⟩
                    cases h with
                    | true =>
                      clear hh hb12 hj
                      go_wp2_with fail
                      go_roundw
                      case rel => exact HRW.out
                      case measure => simp [intOf]; omega
                    | false =>
                      have he4 := HHIT.out.2 (hitM_all hh)
                      subst he4
                      clear hh hb12 hj
                      go_wp2_with fail
                      go_roundw
                      case rel => exact HRW.out
                      case measure => simp [intOf]; omega
              · have hkI : ¬ (k : Int) < 14 := by omega
                go_wp2_with fail
                go_roundw
                case rel => exact ⟨z + 1, by omega, hzL1, rfl, HB9.out⟩
                case measure => simp [intOf]; omega
          · have HS8 := Lib.hid (HS7.out.below HB8.out)
            have HB82 := Lib.hid (HB7.out.trans (HB8.out.mono HS7.out.up.bs))
            have HLI := Lib.hid (HS8.out.up.list HS8.out.tt HS8.out.vb (by have := HI7.out; omega))
            clear hzw
            go_wp2_with fail
            refine HLI.out.mono ?_
            rintro e w12 ⟨hb12, A12, c12, rfl, hv12⟩
            rw [obsOf_len] at hv12 ⊢
            have HS12 := Lib.hid (HS8.out.below hb12)
            have HB12 := Lib.hid (HB82.out.trans (hb12.mono HS8.out.up.bs))
            have HSM := Lib.hid (sameList_any A12 AT ts.length c12 cT hv12 HS12.out.told rfl)
            clear hb12 hv12 HLI HS8 HB82
            go_wp2_with fail
            refine HSM.out.mono ?_
            rintro e w13 ⟨rfl, hb13⟩
            have HS13 := Lib.hid (HS12.out.below hb13)
            have HB13 := Lib.hid (HB12.out.trans (hb13.mono HS12.out.up.bs))
            have HRT := Lib.hid (HS13.out.up.root HS13.out.tt HS13.out.vb (by have := HI7.out; omega))
            have hal := run_allocHash
            clear hb13 HSM HS12 HB12
            go_wp2_with fail
            refine HRT.out.mono ?_
            rintro e w14 ⟨rfl, hb14⟩
            have HB14 := Lib.hid (HB13.out.trans (hb14.mono HS13.out.up.bs))
            have HS14 := Lib.hid (Nat.le_trans HS13.out.up.bs hb14.size)
            clear hb14 HRT
            rw [show ((none : Option (List UInt8)).getD z32) = z32 from rfl, show ((none : Option (List UInt8)).isSome) = false from rfl]
            go_wp2_with
              (refine wpList_store_hash rfl (.tmp 32) (.tmp 216) rfl w14.heap.size _ z32 z32 rfl rfl (Blk.new w14 _ _) rfl rfl ?_
               intro w15 hb15 hg15 hz15
               have HBW15 := Lib.hid ((below_al' (w := w14) (.cells (cellsOf z32) 44)).grown hg15 (by simp) (fun k hk => by injection hk with hk; omega))
               clear hb15 hg15 hz15)
            go_ret
            exact ⟨rfl, HB14.out.trans (HBW15.out.mono HS14.out)⟩
end Go.Proofs.YtloffgoenaomkaaDoor.Col
