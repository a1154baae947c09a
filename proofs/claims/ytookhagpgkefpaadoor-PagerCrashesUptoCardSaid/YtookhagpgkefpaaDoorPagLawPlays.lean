/- The law 'PagerPlays' (under way: its head). -/
import Derived.Test.YtookhagpgkefpaaDoorPagShown
import Derived.Test.YtookhagpgkefpaaDoorFold18
import Derived.Test.YtookhagpgkefpaaDoorPagRefNo
import Derived.Deep.CutRange
import Derived.Deep.CutBlock
import Derived.Deep.LoopGhost
import Derived.BigQuiet
namespace Go.Proofs.YtookhagpgkefpaaDoor.Pag
open Go Go.RowKit Mem Pl Disk Crc _root_.Go.Proofs.YtookhagpgkefpaaDoor.Frame
theorem own_z {w w' : World} {Z : Nat → Prop} {base : Nat} {A : Option Addr} {n c : Nat} {bs : List UInt8} (h : Own w base 5 A n c bs) (hm : Mods w.heap.size (fun k => ¬ Z k) w w') (hz : ∀ g, A = some ⟨g, 0, none⟩ → Z g) : Own w' base 5 A n c bs := by
  refine ⟨h.1, ?_⟩
  rcases h.2 with h1 | ⟨g, cap, cur, h1, h2, hh, h3⟩
  · exact .inl h1
  · refine .inr ⟨g, cap, cur, h1, h2, ?_, h3⟩
    have hlt : g < w.heap.size := (Array.getElem?_eq_some_iff.1 hh).1
    injection h1 with e
    exact hm.heap hlt (fun hf => hf (hz g e)) hh
theorem blk_z {w w' : World} {Z : Nat → Prop} {g : Nat} {t : TypeId} {cs : Array Value} (h : Blk w g t cs) (hm : Mods w.heap.size (fun k => ¬ Z k) w w') (hz : Z g) : Blk w' g t cs := h.mods hm h.lt fun hf => hf hz
theorem freeM_pages (m : PgM) (p : Int) : (freeM m p).1.pages = m.pages ∧ (freeM m p).1.gen = m.gen := by
  unfold freeM
  split <;> exact ⟨rfl, rfl⟩
/-- The loop. -/
def PlayR (W : World) (a N y np L k : Nat) (iv gv : Value) (wr : World) : Prop :=
  ∃ (i g : Nat) (m : PgM) (T C : Nat → List UInt8) (r : RM), i + k = L ∧ iv = .int .i64 (i : Int) ∧ gv = .pointer (some ⟨g, 0, none⟩) ∧ On2 W wr (fun _ => False) a (2 + 11 * i) 1 N g m T C y r ∧ RSim r m T C ∧ m.gen ≤ 2 + i ∧ m.pages = np
/-- Where the ways of a round meet. -/
def PlayM (W : World) (a N y np i : Nat) (gv : Value) (wr : World) : Prop :=
  ∃ (g : Nat) (m : PgM) (T C : Nat → List UInt8) (r : RM), gv = .pointer (some ⟨g, 0, none⟩) ∧ On2 W wr (fun _ => False) a (2 + 11 * (i + 1)) 1 N g m T C y r ∧ RSim r m T C ∧ m.gen ≤ 3 + i ∧ m.pages = np
/-- The copy is written over. -/
def PlayW (W : World) (base : Nat) (Z : Nat → Prop) (a n N g y : Nat) (m : PgM) (T C : Nat → List UInt8) (r : RM) (A2 : Option Addr) (L c2 : Nat) (jv : Value) (wr : World) : Prop :=
  ∃ (j : Nat) (bs : List UInt8), j ≤ L ∧ jv = .int .i64 (j : Int) ∧ Own wr base 5 A2 L c2 bs ∧ On2 W wr Z a n 1 N g m T C y r
set_option maxRecDepth 100000 in
set_option maxHeartbeats 16000000 in
theorem lawPlays (z : Int) (hz : -9223372036854775808 ≤ z ∧ z < 9223372036854775808) (A1 : Option Addr) (n1 c1 : Nat) (os : List OpP) (W : World) (ht : TabB W.heap.size W) (ho : OpsPAt W A1 os) (hom : os.length = n1) (hm : n1 ≤ 10000000) :
    Calls Tryd.prog 3 #[.int .i64 z, .slice A1 n1 c1] W fun e W' => e = .returned (.bool true) ∧ Below W.heap.size W W' := by
  have HZ := Lib.hid hz
  have HT := Lib.hid ht
  have HSH := Lib.hid (shown_any W ht)
  have HO := Lib.hid ho
  have HOM := Lib.hid hom
  clear hz ht ho hom
  go_enter Tryd.func3, Tryd.ntmps3
  go_wp2_with fail
  refine HSH.out.mono ?_
  rintro e w0 ⟨rfl, hb0⟩
  have HB0 := Lib.hid hb0
  clear hb0
  go_upto_if 30 with fail
  go_cut [0] from 30 to 30 (fun v wc => ∃ s : Int, s ≤ 400 ∧ -9223372036854775808 ≤ s ∧ v = .int .i64 s ∧ wc = w0)
  case first =>
    obtain ⟨hz1, hz2⟩ := HZ.out
    by_cases h : 400 < z
    · go_wp2_with fail
      go_meet
      exact ⟨400, by omega, by omega, rfl, rfl⟩
    · go_wp2_with fail
      go_meet
      exact ⟨z, by omega, by omega, rfl, rfl⟩
  case rest =>
    obtain ⟨s, hs1, hs2, rfl, rfl⟩ := hcut
    have HNW := Lib.hid (made_play (w := wc) s hs1 HB0.out.size rfl)
    go_wp2_with fail
    refine HNW.out.mono ?_
    rintro e w1 ⟨hb1, ⟨hs, rfl⟩ | ⟨n, a, rfl, hn1, hn2, rfl, hpd⟩⟩
    · have HB1 := Lib.hid (HB0.out.trans (hb1.mono HB0.out.size))
      clear hb1 HNW
      go_wp2_with fail
      go_ret
      exact ⟨rfl, HB1.out⟩
    · have HB1 := Lib.hid (HB0.out.trans (hb1.mono HB0.out.size))
      have HF2 := Lib.hid (hpd.formatNo 2 (playPM_two n))
      clear hb1 HNW hpd
      go_wp2_with fail
      refine HF2.out.mono ?_
      rintro e w2 ⟨rfl, hpd, hb2⟩
      have HB2 := Lib.hid (HB1.out.trans (hb2.mono HB1.out.size))
      have HF9 := Lib.hid (hpd.formatNo 9 (playPM_nine n))
      clear hb2 HF2 hpd
      go_wp2_with fail
      refine HF9.out.mono ?_
      rintro e w3 ⟨rfl, hpd, hb3⟩
      have HB3 := Lib.hid (HB2.out.trans (hb3.mono HB2.out.size))
      clear hb3 HF9
      by_cases h10 : n < 10
      · have HF1 := Lib.hid (hpd.formatNo 1 (playPM_small h10))
        clear hpd
        go_wp2_with fail
        refine HF1.out.mono ?_
        rintro e w4 ⟨rfl, _, hb4⟩
        have HB4 := Lib.hid (HB3.out.trans (hb4.mono HB3.out.size))
        have HRN := Lib.hid (rnew_no w4 n h10)
        clear hb4 HF1
        go_wp2_with fail
        refine HRN.out.mono ?_
        rintro e _ ⟨rfl, rfl⟩
        go_wp2_with fail
        go_ret
        exact ⟨rfl, HB4.out⟩
      · have HF1 := Lib.hid (hpd.formatNew HB3.out.size (by omega) rfl rfl (HT.out.below HB3.out (Nat.le_refl _)) (by omega))
        have HL3 := Lib.hid hpd.lt
        clear hpd
        go_wp2_with fail
        refine HF1.out.mono ?_
        rintro e w4 ⟨pm4, H4, rfl, hon4, hfu4, hpd4, hi4, hm4⟩
        have HB4 := Lib.hid (grow_below hm4 HL3.out HB3.out.size HB3.out)
        obtain ⟨np, hnp⟩ : ∃ np, min ((n - 2) / 8) 384 = np := ⟨_, rfl⟩
        rw [hnp] at hi4
        have HRN := Lib.hid (rnew_any w4 n np (by omega) (by omega) hnp)
        have HON4 := Lib.hid hon4
        have HFU4 := Lib.hid hfu4
        have HPD4 := Lib.hid hpd4
        have HI4 := Lib.hid hi4
        have HNP := Lib.hid hnp
        clear hon4 hfu4 hpd4 hi4 hm4 HF1 hnp
        go_wp2_with fail
        refine HRN.out.mono ?_
        rintro e w5 ⟨y, rfl, K5, J5, hr5, hk5, hj5, hb5⟩
        have HB5 := Lib.hid (HB4.out.trans (hb5.mono HB4.out.size))
        have HR5 := Lib.hid hr5
        have HK5 := Lib.hid hk5
        have HJ5 := Lib.hid hj5
        have HPD5 := Lib.hid (HPD4.out.below hb5)
        clear hr5 hk5 hj5 hb5 HRN
        have HOP := Lib.hid (HPD5.out.opened HI4.out HB5.out.size (by omega) HON4.out (HT.out.below HB5.out (Nat.le_refl _)) HNP.out)
        go_wp2_with fail
        refine HOP.out.mono ?_
        rintro e w6 ⟨g, rfl, hp6, hi6, hb6⟩
        have HB6 := Lib.hid (HB5.out.trans (hb6.mono HB5.out.size))
        have HP6 := Lib.hid hp6
        have HI6 := Lib.hid hi6
        have HR6 := Lib.hid (HR5.out.below hb6)
        clear hp6 hi6 hb6 HOP
        have HST : Hid (On2 W w6 (fun _ => False) a 2 1 n g (pgNew np) noT noT y (newR np)) := Lib.hid ⟨_, K5, J5, pm4, H4, [], ⟨HB6.out, HP6.out, HI6.out, ⟨HR6.out, fun k hk => by
            have hlt := HR5.out.lt
            have hs4 := fun h => HK5.out k h
            have hs5 := fun h => HJ5.out k h
            rcases hk with hk | hk
            · have := (HPD4.out.lt k hk).2
              exact ⟨fun h => by have := hs4 h; omega, fun h => by have := hs5 h; omega⟩
            · have := hk.1
              exact ⟨fun h => by have := hlt.1 k h; omega, fun h => by have := hlt.2 k h; omega⟩, fun k hk => hk.elim (fun h => Nat.le_trans HB4.out.size (HK5.out k h)) fun h => Nat.le_trans HB4.out.size (HJ5.out k h)⟩⟩, HON4.out, HFU4.out, fun k hk => hk.elim⟩
        clear HP6 HI6 HR6 HR5 HPD4 HPD5 HK5 HJ5 HI4 HON4 HFU4 HL3 HB5 HB4 HB6
        go_wp2_with fail
        go_loopg [15, 13] n1 (fun k iv gv wr => PlayR W a n y np n1 k iv gv wr)
        case atStart => exact ⟨0, g, _, _, _, _, by omega, rfl, rfl, HST.out, RSim.new np, by show 1 ≤ _; omega, rfl⟩
        case round =>
          obtain ⟨i, g, m, T, C, r, hi, rfl, rfl, hst, hsim, hgen, hpages⟩ := hrel
          have HSR := Lib.hid hst
          have HSIM := Lib.hid hsim
          have HGI := Lib.hid hi
          have HGEN := Lib.hid hgen
          have HPAGES := Lib.hid hpages
          clear hst hsim hi hgen hpages HST
          by_cases hlt : i < n1
          · have hiI : (i : Int) < (n1 : Int) := by omega
            obtain ⟨o, hoi⟩ : ∃ o, os[i]? = some o := ⟨_, List.getElem?_eq_getElem (by rw [HOM.out]; exact hlt)⟩
            obtain ⟨ad, hA, hcells, hok⟩ := HO.out i o hoi
            subst hA
            obtain ⟨x0, x1, x2, x3⟩ := hcells.below HSR.out.bel
            have HOK := Lib.hid hok
            clear hcells hok hoi
            obtain ⟨kd, nn, AB, L, cb, AK, nk, ck, bs, keep⟩ := o
            dsimp only at x0 x1 x2 x3
            have HKD := Lib.hid (kind_any (wr.alloc (.cells #[.int .i64 kd, .int .i64 nn, .slice AB L cb, .slice AK nk ck] 40)) kd HOK.out.kd)
            have hb1 : Below wr.heap.size wr (wr.alloc (.cells #[.int .i64 kd, .int .i64 nn, .slice AB L cb, .slice AK nk ck] 40)) := below_al' _
            have HS2 := Lib.hid (HSR.out.new hb1)
            have HBK := Lib.hid (Blk.new wr 40 #[.int .i64 kd, .int .i64 nn, .slice AB L cb, .slice AK nk ck])
            have hnz : New wr (wr.alloc (.cells #[.int .i64 kd, .int .i64 nn, .slice AB L cb, .slice AK nk ck] 40)) wr.heap.size := ⟨Nat.le_refl _, by simp⟩
            have HZ2 := Lib.hid hnz
            clear hb1 hnz
            go_wp2_with fail
            refine HKD.out.mono ?_
            rintro e w2 ⟨rfl, hw2⟩
            rw [hw2] at HS2 HBK HZ2
            have hwz : wr.heap.size < w2.heap.size := HZ2.out.2
            have hW2 : W.heap.size ≤ wr.heap.size := HSR.out.bel.size
            clear hw2 HKD x0 x1 x2 x3
            generalize wr.heap.size = oo at *
            have hK := kindM_lt kd
            generalize kindM kd = kk at *
            go_upto_block 2 with fail
            go_cut [7, 13, 17, 18, 19, 20, 21, 22, 23, 24, 25, 26] from 98 to 177 (fun _ gv _ _ _ _ _ _ _ _ _ _ wc => PlayM W a n y np i gv wc)
            case first =>
              have hK' : kk = 0 ∨ kk = 1 ∨ kk = 2 ∨ kk = 3 ∨ kk = 4 ∨ kk = 5 ∨ kk = 6 ∨ kk = 7 ∨ kk = 8 ∨ kk = 9 := by omega
              clear hK
              rcases hK' with rfl | rfl | rfl | rfl | rfl | rfl | rfl | rfl | rfl | rfl
              ·
                obtain ⟨y0, y1, y2, y3⟩ : w2.cell? ⟨oo, 0, none⟩ = some (.int .i64 kd) ∧ w2.cell? ⟨oo, 1, none⟩ = some (.int .i64 nn) ∧ w2.cell? ⟨oo, 2, none⟩ = some (.slice AB L cb) ∧ w2.cell? ⟨oo, 3, none⟩ = some (.slice AK nk ck) := ⟨HBK.out.cell 0, HBK.out.cell 1, HBK.out.cell 2, HBK.out.cell 3⟩
                have hmo : L ≤ 100000000 := HOK.out.most
                go_wp2_with (
                  at_builtin
                  refine wpList_append_bytes rfl (.tmp 103) (.tmp 105) _ rfl w2.heap.size _ Pl.byteTy _ 0 0 [] rfl (Own.new w2 _ _ rfl (Nat.le_refl _) (by rfl) rfl (by decide)) AB L cb bs rfl ((HOK.out.bs.below HS2.out.bel).below (below_al' _)) HOK.out.len L (Nat.zero_add L) (by omega) (by simp) ?_
                  intro A2 c2 w3 ho3 hg3 hb3 hA3
                  rw [List.nil_append] at ho3
                  have hb23 := (below_al' (w := w2) (.cells #[] 5)).trans (hb3.mono (by simp))
                  have HS3 := Lib.hid (HS2.out.new hb23)
                  have HO3 := Lib.hid ho3
                  have HBK3 := Lib.hid (HBK.out.below_ hb23)
                  have HP3 := Lib.hid (HS3.out.put (by omega) HT.out A2 L c2 bs ho3.bat HOK.out.len (by omega))
                  clear ho3 hg3 hb3 hA3 hb23 y0 y1 y2 y3)
                obtain ⟨pn, hpn⟩ : ∃ pn, (putM m T bs).2.2.1 = pn := ⟨_, rfl⟩
                obtain ⟨pe, hpe⟩ : ∃ pe, (putM m T bs).2.2.2 = pe := ⟨_, rfl⟩
                have HSP := Lib.hid (HSIM.out.put HS2.out.use48.1 HS2.out.use48.2 bs (by rw [HOK.out.len]; exact hmo))
                have hp3 := HP3.out
                rw [hpn, hpe] at hp3
                have HP4 := Lib.hid hp3
                have HPN := Lib.hid hpn
                have HPE := Lib.hid hpe
                clear hp3 HP3 hpn hpe
                have HAZ : Hid (∀ gc, A2 = some ⟨gc, 0, none⟩ → New w2 w3 gc) := Lib.hid fun gc e => by
                  rcases HO3.out.form with ⟨h, _⟩ | ⟨g2, h, h1, h2⟩
                  · rw [h] at e; cases e
                  · rw [h] at e
                    injection e with e
                    injection e with e
                    exact e ▸ ⟨h1, h2⟩
                refine HP4.out.mono ?_
                rintro e w4 ⟨rfl, hm4, hs4⟩
                have HS4 := Lib.hid hs4
                have HO4 := Lib.hid (own_z HO3.out hm4 fun gc e => .inr (HAZ.out gc e))
                have HBK4 := Lib.hid (blk_z HBK3.out hm4 (.inl (.inr HZ2.out)))
                have hrp := hs4.rput AB L cb bs HOK.out.bs HOK.out.len (by omega)
                rw [HSP.out.1, HPN.out, HPE.out] at hrp
                have HRP := Lib.hid hrp
                have y2 : w4.cell? ⟨oo, 2, none⟩ = some (.slice AB L cb) := HBK4.out.cell 2
                clear hm4 hs4 hrp HP4 HS3 HO3 HBK3 HBK
                go_wp2_with fail
                refine HRP.out.mono ?_
                rintro e w5 ⟨rfl, hm5, hs5⟩
                have HS5 := Lib.hid hs5
                have HO5 := Lib.hid (own_z HO4.out hm5 fun gc e => .inr (HAZ.out gc e))
                clear hm5 hs5 HRP HO4 HBK4 HS4 y2
                go_wp2_with fail
                go_loopw [22] (fun jv wr' => PlayW W w2.heap.size (fun k => (False ∨ New wr w2 k) ∨ New w2 w3 k) a (2 + 11 * i + 8) n g y (putM m T bs).1 (putM m T bs).2.1 C (r.put bs).1 A2 L c2 jv wr') (fun jv _ => L - (intOf jv).toNat)
                case atStart => exact ⟨0, _, by omega, rfl, HO5.out, HS5.out⟩
                case round =>
                  obtain ⟨j, bs2, hj, rfl, ho6, hs6⟩ := hrel
                  have HO6 := Lib.hid ho6
                  have HS6 := Lib.hid hs6
                  clear ho6 hs6 HO5 HS5
                  by_cases hjl : j < L
                  · have hjI : (j : Int) < (L : Int) := by omega
                    rcases HO6.out.form with ⟨_, h0, _⟩ | ⟨gc, rfl, hgc, hgl⟩
                    · omega
                    · have hcz := HO6.out.at_ hjl
                      have hfz := HO6.out.free j
                      have HON := Lib.hid (HO6.out.setByte j 99)
                      have HSN := Lib.hid (HS6.out.zset (q := ⟨gc, j, none⟩) (.inr (HAZ.out gc rfl)) (by show W.heap.size ≤ gc; omega) (.int .u8 (V8 99)))
                      go_wp2_with fail
                      go_roundw
                      case rel => exact ⟨j + 1, _, by omega, by simp, HON.out, HSN.out⟩
                      case measure => simp [intOf]; omega
                  · have hjI : ¬ (j : Int) < (L : Int) := by omega
                    have HS7 := Lib.hid ((HS6.out.less (Z' := fun _ => False) fun _ h => h.elim).more (show 2 + 11 * i + 8 ≤ 2 + 11 * (i + 1) by omega))
                    go_wp2_with fail
                    go_meet
                    case rel => exact ⟨g, _, _, _, _, rfl, HS7.out, HSP.out.2, by rw [(putM_pages m T bs).2.1]; have := HGEN.out; omega, by rw [(putM_pages m T bs).1]; exact HPAGES.out⟩
              ·
                obtain ⟨y0, y1, y2, y3⟩ : w2.cell? ⟨oo, 0, none⟩ = some (.int .i64 kd) ∧ w2.cell? ⟨oo, 1, none⟩ = some (.int .i64 nn) ∧ w2.cell? ⟨oo, 2, none⟩ = some (.slice AB L cb) ∧ w2.cell? ⟨oo, 3, none⟩ = some (.slice AK nk ck) := ⟨HBK.out.cell 0, HBK.out.cell 1, HBK.out.cell 2, HBK.out.cell 3⟩
                have hmo : L ≤ 100000000 := HOK.out.most
                go_wp2_with (
                  at_builtin
                  refine wpList_append_bytes rfl (.tmp 103) (.tmp 105) _ rfl w2.heap.size _ Pl.byteTy _ 0 0 [] rfl (Own.new w2 _ _ rfl (Nat.le_refl _) (by rfl) rfl (by decide)) AB L cb bs rfl ((HOK.out.bs.below HS2.out.bel).below (below_al' _)) HOK.out.len L (Nat.zero_add L) (by omega) (by simp) ?_
                  intro A2 c2 w3 ho3 hg3 hb3 hA3
                  rw [List.nil_append] at ho3
                  have hb23 := (below_al' (w := w2) (.cells #[] 5)).trans (hb3.mono (by simp))
                  have HS3 := Lib.hid (HS2.out.new hb23)
                  have HO3 := Lib.hid ho3
                  have HBK3 := Lib.hid (HBK.out.below_ hb23)
                  have HP3 := Lib.hid (HS3.out.put (by omega) HT.out A2 L c2 bs ho3.bat HOK.out.len (by omega))
                  clear ho3 hg3 hb3 hA3 hb23 y0 y1 y2 y3)
                obtain ⟨pn, hpn⟩ : ∃ pn, (putM m T bs).2.2.1 = pn := ⟨_, rfl⟩
                obtain ⟨pe, hpe⟩ : ∃ pe, (putM m T bs).2.2.2 = pe := ⟨_, rfl⟩
                have HSP := Lib.hid (HSIM.out.put HS2.out.use48.1 HS2.out.use48.2 bs (by rw [HOK.out.len]; exact hmo))
                have hp3 := HP3.out
                rw [hpn, hpe] at hp3
                have HP4 := Lib.hid hp3
                have HPN := Lib.hid hpn
                have HPE := Lib.hid hpe
                clear hp3 HP3 hpn hpe
                have HAZ : Hid (∀ gc, A2 = some ⟨gc, 0, none⟩ → New w2 w3 gc) := Lib.hid fun gc e => by
                  rcases HO3.out.form with ⟨h, _⟩ | ⟨g2, h, h1, h2⟩
                  · rw [h] at e; cases e
                  · rw [h] at e
                    injection e with e
                    injection e with e
                    exact e ▸ ⟨h1, h2⟩
                refine HP4.out.mono ?_
                rintro e w4 ⟨rfl, hm4, hs4⟩
                have HS4 := Lib.hid hs4
                have HO4 := Lib.hid (own_z HO3.out hm4 fun gc e => .inr (HAZ.out gc e))
                have HBK4 := Lib.hid (blk_z HBK3.out hm4 (.inl (.inr HZ2.out)))
                have hrp := hs4.rput AB L cb bs HOK.out.bs HOK.out.len (by omega)
                rw [HSP.out.1, HPN.out, HPE.out] at hrp
                have HRP := Lib.hid hrp
                have y2 : w4.cell? ⟨oo, 2, none⟩ = some (.slice AB L cb) := HBK4.out.cell 2
                clear hm4 hs4 hrp HP4 HS3 HO3 HBK3 HBK
                go_wp2_with fail
                refine HRP.out.mono ?_
                rintro e w5 ⟨rfl, hm5, hs5⟩
                have HS5 := Lib.hid hs5
                have HO5 := Lib.hid (own_z HO4.out hm5 fun gc e => .inr (HAZ.out gc e))
                clear hm5 hs5 HRP HO4 HBK4 HS4 y2
                go_wp2_with fail
                go_loopw [22] (fun jv wr' => PlayW W w2.heap.size (fun k => (False ∨ New wr w2 k) ∨ New w2 w3 k) a (2 + 11 * i + 8) n g y (putM m T bs).1 (putM m T bs).2.1 C (r.put bs).1 A2 L c2 jv wr') (fun jv _ => L - (intOf jv).toNat)
                case atStart => exact ⟨0, _, by omega, rfl, HO5.out, HS5.out⟩
                case round =>
                  obtain ⟨j, bs2, hj, rfl, ho6, hs6⟩ := hrel
                  have HO6 := Lib.hid ho6
                  have HS6 := Lib.hid hs6
                  clear ho6 hs6 HO5 HS5
                  by_cases hjl : j < L
                  · have hjI : (j : Int) < (L : Int) := by omega
                    rcases HO6.out.form with ⟨_, h0, _⟩ | ⟨gc, rfl, hgc, hgl⟩
                    · omega
                    · have hcz := HO6.out.at_ hjl
                      have hfz := HO6.out.free j
                      have HON := Lib.hid (HO6.out.setByte j 99)
                      have HSN := Lib.hid (HS6.out.zset (q := ⟨gc, j, none⟩) (.inr (HAZ.out gc rfl)) (by show W.heap.size ≤ gc; omega) (.int .u8 (V8 99)))
                      go_wp2_with fail
                      go_roundw
                      case rel => exact ⟨j + 1, _, by omega, by simp, HON.out, HSN.out⟩
                      case measure => simp [intOf]; omega
                  · have hjI : ¬ (j : Int) < (L : Int) := by omega
                    have HS7 := Lib.hid ((HS6.out.less (Z' := fun _ => False) fun _ h => h.elim).more (show 2 + 11 * i + 8 ≤ 2 + 11 * (i + 1) by omega))
                    go_wp2_with fail
                    go_meet
                    case rel => exact ⟨g, _, _, _, _, rfl, HS7.out, HSP.out.2, by rw [(putM_pages m T bs).2.1]; have := HGEN.out; omega, by rw [(putM_pages m T bs).1]; exact HPAGES.out⟩
              ·
                obtain ⟨y0, y1, y2, y3⟩ : w2.cell? ⟨oo, 0, none⟩ = some (.int .i64 kd) ∧ w2.cell? ⟨oo, 1, none⟩ = some (.int .i64 nn) ∧ w2.cell? ⟨oo, 2, none⟩ = some (.slice AB L cb) ∧ w2.cell? ⟨oo, 3, none⟩ = some (.slice AK nk ck) := ⟨HBK.out.cell 0, HBK.out.cell 1, HBK.out.cell 2, HBK.out.cell 3⟩
                have hmo : L ≤ 100000000 := HOK.out.most
                go_wp2_with (
                  at_builtin
                  refine wpList_append_bytes rfl (.tmp 103) (.tmp 105) _ rfl w2.heap.size _ Pl.byteTy _ 0 0 [] rfl (Own.new w2 _ _ rfl (Nat.le_refl _) (by rfl) rfl (by decide)) AB L cb bs rfl ((HOK.out.bs.below HS2.out.bel).below (below_al' _)) HOK.out.len L (Nat.zero_add L) (by omega) (by simp) ?_
                  intro A2 c2 w3 ho3 hg3 hb3 hA3
                  rw [List.nil_append] at ho3
                  have hb23 := (below_al' (w := w2) (.cells #[] 5)).trans (hb3.mono (by simp))
                  have HS3 := Lib.hid (HS2.out.new hb23)
                  have HO3 := Lib.hid ho3
                  have HBK3 := Lib.hid (HBK.out.below_ hb23)
                  have HP3 := Lib.hid (HS3.out.put (by omega) HT.out A2 L c2 bs ho3.bat HOK.out.len (by omega))
                  clear ho3 hg3 hb3 hA3 hb23 y0 y1 y2 y3)
                obtain ⟨pn, hpn⟩ : ∃ pn, (putM m T bs).2.2.1 = pn := ⟨_, rfl⟩
                obtain ⟨pe, hpe⟩ : ∃ pe, (putM m T bs).2.2.2 = pe := ⟨_, rfl⟩
                have HSP := Lib.hid (HSIM.out.put HS2.out.use48.1 HS2.out.use48.2 bs (by rw [HOK.out.len]; exact hmo))
                have hp3 := HP3.out
                rw [hpn, hpe] at hp3
                have HP4 := Lib.hid hp3
                have HPN := Lib.hid hpn
                have HPE := Lib.hid hpe
                clear hp3 HP3 hpn hpe
                have HAZ : Hid (∀ gc, A2 = some ⟨gc, 0, none⟩ → New w2 w3 gc) := Lib.hid fun gc e => by
                  rcases HO3.out.form with ⟨h, _⟩ | ⟨g2, h, h1, h2⟩
                  · rw [h] at e; cases e
                  · rw [h] at e
                    injection e with e
                    injection e with e
                    exact e ▸ ⟨h1, h2⟩
                refine HP4.out.mono ?_
                rintro e w4 ⟨rfl, hm4, hs4⟩
                have HS4 := Lib.hid hs4
                have HO4 := Lib.hid (own_z HO3.out hm4 fun gc e => .inr (HAZ.out gc e))
                have HBK4 := Lib.hid (blk_z HBK3.out hm4 (.inl (.inr HZ2.out)))
                have hrp := hs4.rput AB L cb bs HOK.out.bs HOK.out.len (by omega)
                rw [HSP.out.1, HPN.out, HPE.out] at hrp
                have HRP := Lib.hid hrp
                have y2 : w4.cell? ⟨oo, 2, none⟩ = some (.slice AB L cb) := HBK4.out.cell 2
                clear hm4 hs4 hrp HP4 HS3 HO3 HBK3 HBK
                go_wp2_with fail
                refine HRP.out.mono ?_
                rintro e w5 ⟨rfl, hm5, hs5⟩
                have HS5 := Lib.hid hs5
                have HO5 := Lib.hid (own_z HO4.out hm5 fun gc e => .inr (HAZ.out gc e))
                clear hm5 hs5 HRP HO4 HBK4 HS4 y2
                go_wp2_with fail
                go_loopw [22] (fun jv wr' => PlayW W w2.heap.size (fun k => (False ∨ New wr w2 k) ∨ New w2 w3 k) a (2 + 11 * i + 8) n g y (putM m T bs).1 (putM m T bs).2.1 C (r.put bs).1 A2 L c2 jv wr') (fun jv _ => L - (intOf jv).toNat)
                case atStart => exact ⟨0, _, by omega, rfl, HO5.out, HS5.out⟩
                case round =>
                  obtain ⟨j, bs2, hj, rfl, ho6, hs6⟩ := hrel
                  have HO6 := Lib.hid ho6
                  have HS6 := Lib.hid hs6
                  clear ho6 hs6 HO5 HS5
                  by_cases hjl : j < L
                  · have hjI : (j : Int) < (L : Int) := by omega
                    rcases HO6.out.form with ⟨_, h0, _⟩ | ⟨gc, rfl, hgc, hgl⟩
                    · omega
                    · have hcz := HO6.out.at_ hjl
                      have hfz := HO6.out.free j
                      have HON := Lib.hid (HO6.out.setByte j 99)
                      have HSN := Lib.hid (HS6.out.zset (q := ⟨gc, j, none⟩) (.inr (HAZ.out gc rfl)) (by show W.heap.size ≤ gc; omega) (.int .u8 (V8 99)))
                      go_wp2_with fail
                      go_roundw
                      case rel => exact ⟨j + 1, _, by omega, by simp, HON.out, HSN.out⟩
                      case measure => simp [intOf]; omega
                  · have hjI : ¬ (j : Int) < (L : Int) := by omega
                    have HS7 := Lib.hid ((HS6.out.less (Z' := fun _ => False) fun _ h => h.elim).more (show 2 + 11 * i + 8 ≤ 2 + 11 * (i + 1) by omega))
                    go_wp2_with fail
                    go_meet
                    case rel => exact ⟨g, _, _, _, _, rfl, HS7.out, HSP.out.2, by rw [(putM_pages m T bs).2.1]; have := HGEN.out; omega, by rw [(putM_pages m T bs).1]; exact HPAGES.out⟩
              ·
                obtain ⟨y0, y1, y2, y3⟩ : w2.cell? ⟨oo, 0, none⟩ = some (.int .i64 kd) ∧ w2.cell? ⟨oo, 1, none⟩ = some (.int .i64 nn) ∧ w2.cell? ⟨oo, 2, none⟩ = some (.slice AB L cb) ∧ w2.cell? ⟨oo, 3, none⟩ = some (.slice AK nk ck) := ⟨HBK.out.cell 0, HBK.out.cell 1, HBK.out.cell 2, HBK.out.cell 3⟩
                have hmo : L ≤ 100000000 := HOK.out.most
                go_wp2_with (
                  at_builtin
                  refine wpList_append_bytes rfl (.tmp 103) (.tmp 105) _ rfl w2.heap.size _ Pl.byteTy _ 0 0 [] rfl (Own.new w2 _ _ rfl (Nat.le_refl _) (by rfl) rfl (by decide)) AB L cb bs rfl ((HOK.out.bs.below HS2.out.bel).below (below_al' _)) HOK.out.len L (Nat.zero_add L) (by omega) (by simp) ?_
                  intro A2 c2 w3 ho3 hg3 hb3 hA3
                  rw [List.nil_append] at ho3
                  have hb23 := (below_al' (w := w2) (.cells #[] 5)).trans (hb3.mono (by simp))
                  have HS3 := Lib.hid (HS2.out.new hb23)
                  have HO3 := Lib.hid ho3
                  have HBK3 := Lib.hid (HBK.out.below_ hb23)
                  have HP3 := Lib.hid (HS3.out.put (by omega) HT.out A2 L c2 bs ho3.bat HOK.out.len (by omega))
                  clear ho3 hg3 hb3 hA3 hb23 y0 y1 y2 y3)
                obtain ⟨pn, hpn⟩ : ∃ pn, (putM m T bs).2.2.1 = pn := ⟨_, rfl⟩
                obtain ⟨pe, hpe⟩ : ∃ pe, (putM m T bs).2.2.2 = pe := ⟨_, rfl⟩
                have HSP := Lib.hid (HSIM.out.put HS2.out.use48.1 HS2.out.use48.2 bs (by rw [HOK.out.len]; exact hmo))
                have hp3 := HP3.out
                rw [hpn, hpe] at hp3
                have HP4 := Lib.hid hp3
                have HPN := Lib.hid hpn
                have HPE := Lib.hid hpe
                clear hp3 HP3 hpn hpe
                have HAZ : Hid (∀ gc, A2 = some ⟨gc, 0, none⟩ → New w2 w3 gc) := Lib.hid fun gc e => by
                  rcases HO3.out.form with ⟨h, _⟩ | ⟨g2, h, h1, h2⟩
                  · rw [h] at e; cases e
                  · rw [h] at e
                    injection e with e
                    injection e with e
                    exact e ▸ ⟨h1, h2⟩
                refine HP4.out.mono ?_
                rintro e w4 ⟨rfl, hm4, hs4⟩
                have HS4 := Lib.hid hs4
                have HO4 := Lib.hid (own_z HO3.out hm4 fun gc e => .inr (HAZ.out gc e))
                have HBK4 := Lib.hid (blk_z HBK3.out hm4 (.inl (.inr HZ2.out)))
                have hrp := hs4.rput AB L cb bs HOK.out.bs HOK.out.len (by omega)
                rw [HSP.out.1, HPN.out, HPE.out] at hrp
                have HRP := Lib.hid hrp
                have y2 : w4.cell? ⟨oo, 2, none⟩ = some (.slice AB L cb) := HBK4.out.cell 2
                clear hm4 hs4 hrp HP4 HS3 HO3 HBK3 HBK
                go_wp2_with fail
                refine HRP.out.mono ?_
                rintro e w5 ⟨rfl, hm5, hs5⟩
                have HS5 := Lib.hid hs5
                have HO5 := Lib.hid (own_z HO4.out hm5 fun gc e => .inr (HAZ.out gc e))
                clear hm5 hs5 HRP HO4 HBK4 HS4 y2
                go_wp2_with fail
                go_loopw [22] (fun jv wr' => PlayW W w2.heap.size (fun k => (False ∨ New wr w2 k) ∨ New w2 w3 k) a (2 + 11 * i + 8) n g y (putM m T bs).1 (putM m T bs).2.1 C (r.put bs).1 A2 L c2 jv wr') (fun jv _ => L - (intOf jv).toNat)
                case atStart => exact ⟨0, _, by omega, rfl, HO5.out, HS5.out⟩
                case round =>
                  obtain ⟨j, bs2, hj, rfl, ho6, hs6⟩ := hrel
                  have HO6 := Lib.hid ho6
                  have HS6 := Lib.hid hs6
                  clear ho6 hs6 HO5 HS5
                  by_cases hjl : j < L
                  · have hjI : (j : Int) < (L : Int) := by omega
                    rcases HO6.out.form with ⟨_, h0, _⟩ | ⟨gc, rfl, hgc, hgl⟩
                    · omega
                    · have hcz := HO6.out.at_ hjl
                      have hfz := HO6.out.free j
                      have HON := Lib.hid (HO6.out.setByte j 99)
                      have HSN := Lib.hid (HS6.out.zset (q := ⟨gc, j, none⟩) (.inr (HAZ.out gc rfl)) (by show W.heap.size ≤ gc; omega) (.int .u8 (V8 99)))
                      go_wp2_with fail
                      go_roundw
                      case rel => exact ⟨j + 1, _, by omega, by simp, HON.out, HSN.out⟩
                      case measure => simp [intOf]; omega
                  · have hjI : ¬ (j : Int) < (L : Int) := by omega
                    have HS7 := Lib.hid ((HS6.out.less (Z' := fun _ => False) fun _ h => h.elim).more (show 2 + 11 * i + 8 ≤ 2 + 11 * (i + 1) by omega))
                    go_wp2_with fail
                    go_meet
                    case rel => exact ⟨g, _, _, _, _, rfl, HS7.out, HSP.out.2, by rw [(putM_pages m T bs).2.1]; have := HGEN.out; omega, by rw [(putM_pages m T bs).1]; exact HPAGES.out⟩
              ·
                obtain ⟨y0, y1, y2, y3⟩ : w2.cell? ⟨oo, 0, none⟩ = some (.int .i64 kd) ∧ w2.cell? ⟨oo, 1, none⟩ = some (.int .i64 nn) ∧ w2.cell? ⟨oo, 2, none⟩ = some (.slice AB L cb) ∧ w2.cell? ⟨oo, 3, none⟩ = some (.slice AK nk ck) := ⟨HBK.out.cell 0, HBK.out.cell 1, HBK.out.cell 2, HBK.out.cell 3⟩
                have HF3 := Lib.hid (HS2.out.free nn)
                obtain ⟨fe, hfe⟩ : ∃ fe, (freeM m nn).2 = fe := ⟨_, rfl⟩
                have hf3 := HF3.out
                rw [hfe] at hf3
                have HF4 := Lib.hid hf3
                have HFE : Hid ((if r.used nn then 0 else 90 : Int) = fe) := Lib.hid (by rw [← hfe, HSIM.out.used]; unfold freeM; split <;> rfl)
                clear hf3 HF3 hfe
                go_wp2_with fail
                refine HF4.out.mono ?_
                rintro e w3 ⟨rfl, hm3, hs3⟩
                have HBK3 := Lib.hid (blk_z HBK.out hm3 (.inr HZ2.out))
                have hrf := hs3.rfree nn
                rw [HFE.out] at hrf
                have HRF := Lib.hid hrf
                have z1 : w3.cell? ⟨oo, 1, none⟩ = some (.int .i64 nn) := HBK3.out.cell 1
                clear hm3 hs3 hrf HF4 y0 y1 y2 y3
                go_wp2_with fail
                refine HRF.out.mono ?_
                rintro e w4 ⟨rfl, hm4, hs4⟩
                have HS4 := Lib.hid ((hs4.less (Z' := fun _ => False) fun _ h => h.elim).more (show 2 + 11 * i ≤ 2 + 11 * (i + 1) by omega))
                clear hm4 hs4 HRF z1
                go_wp2_with fail
                go_meet
                exact ⟨g, _, _, _, _, rfl, HS4.out, HSIM.out.freed HS2.out.use48.1 HS2.out.use48.2 nn, by rw [(freeM_pages m nn).2]; have := HGEN.out; omega, by rw [(freeM_pages m nn).1]; exact HPAGES.out⟩
              ·
                obtain ⟨y0, y1, y2, y3⟩ : w2.cell? ⟨oo, 0, none⟩ = some (.int .i64 kd) ∧ w2.cell? ⟨oo, 1, none⟩ = some (.int .i64 nn) ∧ w2.cell? ⟨oo, 2, none⟩ = some (.slice AB L cb) ∧ w2.cell? ⟨oo, 3, none⟩ = some (.slice AK nk ck) := ⟨HBK.out.cell 0, HBK.out.cell 1, HBK.out.cell 2, HBK.out.cell 3⟩
                have HC3 := Lib.hid (HS2.out.commit (by omega) HT.out (by have := HGEN.out; omega) nn)
                go_wp2_with fail
                refine HC3.out.mono ?_
                rintro e w3 (⟨hr, rfl, rfl⟩ | ⟨hr, rfl, hm3, hs3⟩)
                · have HR := Lib.hid hr
                  have HRC := Lib.hid (HS2.out.rcommit nn)
                  clear hr HC3
                  go_wp2_with fail
                  refine HRC.out.mono ?_
                  rintro e w4 (⟨_, rfl, rfl⟩ | ⟨hu, _⟩)
                  · have HS4 := Lib.hid ((HS2.out.less (Z' := fun _ => False) fun _ h => h.elim).more (show 2 + 11 * i ≤ 2 + 11 * (i + 1) by omega))
                    clear HRC y0 y1 y2 y3
                    go_wp2_with fail
                    go_meet
                    exact ⟨g, m, T, C, r, rfl, HS4.out, HSIM.out, by have := HGEN.out; omega, HPAGES.out⟩
                  · have h1 := (HSIM.out.may nn).1 hu
                    rw [HR.out] at h1
                    cases h1
                · have HR := Lib.hid hr
                  have HBK3 := Lib.hid (blk_z HBK.out hm3 (.inr HZ2.out))
                  have HRC := Lib.hid (hs3.rcommit nn)
                  have z1 : w3.cell? ⟨oo, 1, none⟩ = some (.int .i64 nn) := HBK3.out.cell 1
                  clear hr hm3 hs3 HC3 y0 y1 y2 y3
                  go_wp2_with fail
                  refine HRC.out.mono ?_
                  rintro e w4 (⟨⟨hne, hu⟩, _⟩ | ⟨_, rfl, hm4, hs4⟩)
                  · rcases (HSIM.out.may nn).2 HR.out with h | h
                    · exact absurd h hne
                    · rw [hu] at h
                      cases h
                  · have HS4 := Lib.hid ((hs4.less (Z' := fun _ => False) fun _ h => h.elim).more (show 2 + 11 * i + 3 ≤ 2 + 11 * (i + 1) by omega))
                    clear hm4 hs4 HRC z1
                    go_wp2_with fail
                    go_meet
                    exact ⟨g, _, _, _, _, rfl, HS4.out, HSIM.out.committed nn, by show m.gen + 1 ≤ 3 + i; have := HGEN.out; omega, HPAGES.out⟩
              ·
                have HO3 := Lib.hid (HS2.out.opened (by omega) HT.out (HNP.out.trans HPAGES.out.symm))
                go_wp2_with fail
                refine HO3.out.mono ?_
                rintro e w3 ⟨g', rfl, hb3, hs3⟩
                have HRD := Lib.hid hs3.rdrop
                clear hb3 hs3 HO3
                go_wp2_with fail
                refine HRD.out.mono ?_
                rintro e w4 ⟨rfl, hm4, hs4⟩
                have HS4 := Lib.hid ((hs4.less (Z' := fun _ => False) fun _ h => h.elim).more (show 2 + 11 * i ≤ 2 + 11 * (i + 1) by omega))
                clear hm4 hs4 HRD
                go_wp2_with fail
                go_meet
                exact ⟨g', _, _, _, _, rfl, HS4.out, HSIM.out.dropped, by show m.gen ≤ 3 + i; have := HGEN.out; omega, HPAGES.out⟩
              ·
                have HS4 := Lib.hid ((HS2.out.less (Z' := fun _ => False) fun _ h => h.elim).more (show 2 + 11 * i ≤ 2 + 11 * (i + 1) by omega))
                go_wp2_with fail
                go_meet
                exact ⟨g, m, T, C, r, rfl, HS4.out, HSIM.out, by have := HGEN.out; omega, HPAGES.out⟩
              ·
                have HS4 := Lib.hid ((HS2.out.less (Z' := fun _ => False) fun _ h => h.elim).more (show 2 + 11 * i ≤ 2 + 11 * (i + 1) by omega))
                go_wp2_with fail
                go_meet
                exact ⟨g, m, T, C, r, rfl, HS4.out, HSIM.out, by have := HGEN.out; omega, HPAGES.out⟩
              ·
                have HS4 := Lib.hid ((HS2.out.less (Z' := fun _ => False) fun _ h => h.elim).more (show 2 + 11 * i ≤ 2 + 11 * (i + 1) by omega))
                go_wp2_with fail
                go_meet
                exact ⟨g, m, T, C, r, rfl, HS4.out, HSIM.out, by have := HGEN.out; omega, HPAGES.out⟩
            case rest =>
              obtain ⟨g', m', T', C', r', rfl, hst, hsim, hgen, hpages⟩ := hcut
              have HS3 := Lib.hid hst
              have HSIM3 := Lib.hid hsim
              have HGEN3 := Lib.hid hgen
              have HPAGES3 := Lib.hid hpages
              have HAL := Lib.hid (hst.alike hsim (by omega) HT.out)
              clear hst hsim hgen hpages HS2 HBK HZ2 HSR HSIM HGEN HPAGES hwz hW2
              go_wp2_with fail
              refine HAL.out.mono ?_
              rintro e w4 ⟨rfl, hb4⟩
              have HS4 := Lib.hid (HS3.out.below hb4)
              clear hb4 HAL
              go_wp2_with fail
              go_roundg (gk - 1)
              case measure => have := HGI.out; omega
              case rel => exact ⟨i + 1, _, _, _, _, _, by have := HGI.out; omega, by go_num, rfl, HS4.out, HSIM3.out, by have := HGEN3.out; omega, HPAGES3.out⟩
          · have hiI : ¬ ((i : Nat) : Int) < (n1 : Int) := by omega
            go_wp2_with fail
            go_ret
            exact ⟨rfl, HSR.out.bel⟩
end Go.Proofs.YtookhagpgkefpaaDoor.Pag
