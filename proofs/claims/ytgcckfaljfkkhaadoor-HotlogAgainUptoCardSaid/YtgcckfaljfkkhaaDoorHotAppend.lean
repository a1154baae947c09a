/- The stand's 'append'. -/
import Derived.Test.YtgcckfaljfkkhaaDoorFold24
namespace Go.Proofs.YtgcckfaljfkkhaaDoor.Hot
open Go Go.RowKit Mem Pl Disk Crc _root_.Go.Proofs.YtgcckfaljfkkhaaDoor.Frame
/-- An Op as an argument. -/
def opV (kind num : Int) (A : Option Addr) (L cap : Nat) (x : Plc) (KA : Option Addr) (kl kc : Nat) : Value :=
  .agg #[.int .i64 kind, .int .i64 num, .slice A L cap, .int .i64 x.dev, .int .i64 x.at_, .int .i64 x.len, .bool x.bad, .slice KA kl kc]
def fitC (c : Nat) (r : Option Nat) : List Value := match r with
  | some a => [.int .i64 1, .int .i64 (a : Int), .int .i64 (c : Int), .bool false]
  | none => [.int .i64 0, .int .i64 0, .int .i64 0, .bool false]
theorem fitC_len (c : Nat) (r : Option Nat) : (fitC c r).length = 4 := by cases r <;> rfl
theorem fitC_one (c : Nat) (r : Option Nat) : ∀ u ∈ fitC c r, u.oneCell' = true := by cases r <;> first | exact pc0_one | exact pc1_one _ _ _
theorem fitV_eq (c : Nat) (r : Option Nat) : fitV 1 c r = .tuple #[.agg (fitC c r).toArray, .bool r.isSome] := by cases r <;> rfl
def NineV (w6 : World) (K : Nat → Prop) (A2 : Option Addr) (L c2 : Nat) (kv : Value) (wx : World) : Prop :=
  ∃ (k : Nat) (xs : List Value), k ≤ L ∧ kv = .int .i64 (k : Int) ∧ Vec wx K 5 1 (.slice A2 L c2) L xs ∧ Mods w6.heap.size K w6 wx
set_option maxRecDepth 100000 in
set_option maxHeartbeats 8000000 in
theorem sappend_any {B : Nat} {w : World} {s a h r : Nat} {F H G : Nat → Prop} {pm : PM} {m n : Nat} {Hs : List (List UInt8)} {segs : List Nat} {hsed used : List Pc} {bytes : List (List UInt8)} {ever dims : Nat} (x : StandB B w s a h r F H G pm m n Hs segs hsed used bytes ever dims) (hul : used.length ≤ 90000000) (hm : m ≤ 900000000) (hev : ever ≤ 4000000000000000000) (hdi : dims ≤ 4000000000000000000)
    (kind num : Int) (A : Option Addr) (L cap : Nat) (bs : List UInt8) (p : Plc) (KA : Option Addr) (kl kc : Nat) (keep : List Int) (hb : BAt w A bs) (hl : bs.length = L) (hLm : L ≤ 140737488355327) (ha : bs ≠ [] → Aside w s F H G A)
    (hk : IAt w KA keep) (hkl : keep.length = kl) (hka : keep ≠ [] → Aside w s F H G KA) (hkm : kl ≤ 9223372036854775807) :
    Calls Tryd.prog 24 #[.pointer (some ⟨s, 0, none⟩), opV kind num A L cap p KA kl kc] w fun e w' => e = .returned (.bool true) ∧ Below B w w' ∧ Stood B w' s a r n (m + 20) (ever + 9) (dims + 1) (used.length + 1) := by
  have HX := Lib.hid x
  have HB := Lib.hid hb
  have HL := Lib.hid hl
  have HA := Lib.hid ha
  have HKP := Lib.hid hk
  have HKL := Lib.hid hkl
  have HKA := Lib.hid hka
  clear x hb hl ha hk hkl hka
  unfold opV
  go_enter Tryd.func24, Tryd.ntmps24
  have hb1 : Below w.heap.size w ((w.alloc (.cells #[.int .i64 kind, .int .i64 num, .slice A L cap, .int .i64 p.dev, .int .i64 p.at_, .int .i64 p.len, .bool p.bad, .slice KA kl kc] 53)).alloc (.cells #[] 5)) := (below_al' _).alloc (by simp) _
  have HB1 := Lib.hid hb1
  have HBB := Lib.hid (HB.out.below hb1)
  clear hb1
  go_upto_region 2 with
    (refine wpList_append_clone rfl (.tmp 11) (.tmp 13) rfl _ rfl A L cap bs rfl HBB.out HL.out (by omega) ?_
     intro v0 w2 hv2 hb2
     obtain ⟨A2, c2, rfl⟩ := Vec.shape hv2
     have HV2 := Lib.hid hv2
     have HB2 := Lib.hid hb2
     clear hv2 hb2)
  have hb12 := HB1.out.trans (HB2.out.mono HB1.out.size)
  have HB12 := Lib.hid hb12
  have hkb : Blk w2 w.heap.size 53 #[.int .i64 kind, .int .i64 num, .slice A L cap, .int .i64 p.dev, .int .i64 p.at_, .int .i64 p.len, .bool p.bad, .slice KA kl kc] := ((Blk.new w _ _).alloc _).below_ HB2.out
  have HKB := Lib.hid hkb
  have k2 := (hkb.cell 2).trans (show _ = some (.slice A L cap) from rfl)
  have HX2 := Lib.hid (HX.out.below hb12)
  obtain ⟨c0, c1, c2', _, _⟩ := HX2.out.c0
  have hls := HX2.out.blk.lt
  have hlk := hkb.lt
  clear hb12 hkb HB1 HBB HB2
  obtain ⟨U, V, vs, y⟩ := HX2.out.ref
  have HY := Lib.hid y
  have HF := Lib.hid (fun W (hb : Below w2.heap.size w2 W) => rfit_any (HY.out.below hb) HX2.out.n4 (fun u hu => HX2.out.oks.1 u hu) (by omega) L (by omega))
  clear y
  go_cut [6, 7] from 15 to 25 (fun wv fv wc => ∃ g rr, wv = .pointer (some ⟨g, 0, none⟩) ∧ FitIs used (n / 16) (costM L) rr ∧ fv = .bool rr.isSome ∧ Blk wc g 36 (fitC (costM L) rr).toArray ∧ Below w2.heap.size w2 wc ∧ w2.heap.size ≤ g)
  case first =>
    refine Ord.tb_start [7] (by kernel_rfl) (Ord.tb_pre [0, 1, 2, 3, 4, 5, 6] [_, _, _, _, _, _, _] (k := 7) (by kernel_rfl) rfl rfl (by kernel_rfl) ?_)
    go_wp2_with fail
    refine Ord.nx_tb (Ord.tb_fork (i := 7) (j := 11) (k := 6) (by kernel_rfl) rfl rfl ?_ ?_)
    · go_wp2_with fail
      refine (HF.out _ (below_drewN (Below.refl _ _) 1)).mono ?_
      rintro e w3 ⟨rr, hrr, rfl, hb3⟩
      rw [fitV_eq]
      have HRR := Lib.hid hrr
      have HB3 := Lib.hid hb3
      clear hrr hb3
      go_wp2_with fail
      refine Ord.nx_tb2 HB3.out (Ord.tb_ords [8, 9, 10, 11, 12, 13] (by kernel_rfl) rfl (by kernel_rfl) (Ord.ord_all [_, _, _, _, _, _] rfl (by kernel_rfl) ?_))
      have HN4 := Lib.hid (Blk.new w3 36 #[.int .i64 0, .int .i64 0, .int .i64 0, .bool false])
      go_wp2_with
        (refine wpList_store_all rfl 36 (.tmp 6) (.tmp 24) rfl w3.heap.size 36 [.int .i64 0, .int .i64 0, .int .i64 0, .bool false] (fitC (costM L) rr) rfl rfl (HN4.out) (fitC_len _ _) (by rw [fitC_len]; kernel_rfl) (fitC_one _ _) ?_
         intro w6 hb6 hg6 hz6
         have HB6 := Lib.hid hb6
         have HG6 := Lib.hid hg6
         have HZ6 := Lib.hid hz6
         clear hb6 hg6 hz6)
      refine Ord.nx_end ?_
      go_wp2_with fail
      go_meet
      have hb23 : Below w2.heap.size w2 w3 := (below_drewN (Below.refl w2.heap.size w2) 1).trans HB3.out
      exact ⟨_, rr, rfl, HRR.out, rfl, HB6.out, hb23.trans (fit_row ((below_al' (w := w3) (.cells #[.int .i64 0, .int .i64 0, .int .i64 0, .bool false] 36)).mono hb23.size) HG6.out hb23.size (by simp; have := hb23.size; omega)), hb23.size⟩
    · go_wp2_with fail
      refine Ord.nx_tb2 (below_al' _) (Ord.tb_ords [7, 8, 9, 10, 12, 13] (by kernel_rfl) rfl (by kernel_rfl) (Ord.ord_one rfl ?_))
      go_wp2_with fail
      have hbA : Below w2.heap.size w2 (w2.drew.alloc (.cells #[.int .i64 0, .int .i64 0, .int .i64 0, .bool false] 36)) := (below_drewN (Below.refl w2.heap.size w2) 1).trans (show Below w2.heap.size w2.drew _ from below_al' (w := w2.drew) _)
      have HBA := Lib.hid hbA
      refine (HF.out _ hbA).mono ?_
      rintro e w3 ⟨rr, hrr, rfl, hb3⟩
      rw [fitV_eq]
      have HRR := Lib.hid hrr
      have HB3 := Lib.hid hb3
      clear hrr hb3 hbA
      have HN4 := Lib.hid ((Blk.new w2.drew 36 #[.int .i64 0, .int .i64 0, .int .i64 0, .bool false]).below_ HB3.out)
      go_wp2_with fail
      refine Ord.nx_and HB3.out (Ord.ord_all [_, _, _, _, _] rfl (by kernel_rfl) ?_)
      go_wp2_with
        (refine wpList_store_all rfl 36 (.tmp 6) (.tmp 24) rfl w2.heap.size 36 [.int .i64 0, .int .i64 0, .int .i64 0, .bool false] (fitC (costM L) rr) rfl rfl (HN4.out) (fitC_len _ _) (by rw [fitC_len]; kernel_rfl) (fitC_one _ _) ?_
         intro w6 hb6 hg6 hz6
         have HB6 := Lib.hid hb6
         have HG6 := Lib.hid hg6
         have HZ6 := Lib.hid hz6
         clear hb6 hg6 hz6)
      refine Ord.nx_end ?_
      go_wp2_with fail
      go_meet
      have hb23 : Below w2.heap.size w2 w3 := HBA.out.trans (HB3.out.mono HBA.out.size)
      exact ⟨_, rr, rfl, HRR.out, rfl, HB6.out, fit_row hb23 HG6.out (Nat.le_refl _) hb23.size, Nat.le_refl _⟩
  case rest =>
    obtain ⟨gW, rr, rfl, hrr, rfl, hkw, hbc, hgw⟩ := hcut
    have HRR := Lib.hid hrr
    have HKW := Lib.hid hkw
    have HXC := Lib.hid (HX2.out.below hbc)
    have HKC := Lib.hid (HKB.out.below_ hbc)
    have HVC := Lib.hid (Vec.below (show Vec w2 _ _ _ _ _ _ from HV2.out) hbc)
    have HBC := Lib.hid (HB12.out.trans (hbc.mono HB12.out.size))
    have HGW := Lib.hid hgw
    have HSZ := Lib.hid hbc.size
    obtain ⟨_, c1, _, _, _⟩ := HXC.out.c0
    have hls := HXC.out.blk.lt
    clear hrr hkw hbc hgw k2 c0 c2' HKB HV2 HF
    go_upto_region 4 with fail
    obtain ⟨Ao, co, hve, hbo⟩ := ByAt.bat (show ByAt wc _ bs (.slice A2 bs.length c2) from HVC.out)
    injection hve with hv1 _ hv2
    subst hv1 hv2
    obtain ⟨K, hKe⟩ : ∃ K : Nat → Prop, K = Grow (fun _ => False) ((w.alloc (.cells #[.int .i64 kind, .int .i64 num, .slice A L cap, .int .i64 p.dev, .int .i64 p.at_, .int .i64 p.len, .bool p.bad, .slice KA kl kc] 53)).alloc (.cells #[] 5)) w2 := ⟨_, rfl⟩
    rw [← hKe] at HVC
    have HKR := Lib.hid (show ∀ g, K g → w.heap.size < g ∧ g < w2.heap.size by
      intro g hg
      rw [hKe] at hg
      rcases hg with hg | hg
      · exact hg.elim
      · refine ⟨?_, hg.2⟩
        have := hg.1
        simp at this
        omega)
    clear hKe
    have HBAC := Lib.hid (HB.out.below HBC.out)
    have hLI : (L : Int) ≤ 140737488355327 := by omega
    refine (happend_any HXC.out.hot HXC.out.hB hm HXC.out.on (by rw [HXC.out.perm.length_eq]; omega) HXC.out.tabs A2 bs.length c2 bs hbo rfl (by rw [HL.out]; omega)).mono ?_
    rintro e w5 happ
    obtain ⟨xd, xa, xl, code, rfl, hm5⟩ := happ.shape
    have HAPP := Lib.hid happ
    have HM5 := Lib.hid hm5
    have HN8 := Lib.hid (Blk.new w5 36 #[.int .i64 0, .int .i64 0, .int .i64 0, .bool false])
    clear happ hm5 hbo
    go_upto_region 4 with
      (refine wpList_store_all rfl 36 (.tmp 8) (.tmp 33) rfl w5.heap.size 36 [.int .i64 0, .int .i64 0, .int .i64 0, .bool false] (pcs xd xa xl) rfl rfl (HN8.out) rfl (by kernel_rfl) (pcs_one _ _ _) ?_
       intro w6 hb6 hg6 hz6
       have HB6 := Lib.hid hb6
       have HG6 := Lib.hid hg6
       clear hb6 hg6 hz6)
    have hb56 : Below w5.heap.size w5 w6 := fit_row (below_al' (w := w5) _) HG6.out (Nat.le_refl _) (by simp)
    have HB56 := Lib.hid hb56
    have hnot : ∀ g, g < wc.heap.size → ¬ (w2.heap.size ≤ g ∧ False) := fun _ _ h => h.2
    have hFw : ∀ g, w.heap.size ≤ g → ¬ (F g ∨ H g) := fun g hg h => h.elim (fun h => by have := (HX.out.hot.st.lt g h).2; omega) (fun h => by have := (HX.out.hot.lt g h).2; omega)
    have HKO6 := Lib.hid ((HKC.out.mods HM5.out HKC.out.lt (hFw _ (Nat.le_refl _))).below_ hb56)
    have HV6 := Lib.hid (Vec.below (HVC.out.mods HM5.out fun g hg hK => ⟨hg, hFw g (Nat.le_of_lt (HKR.out g hK).1)⟩) hb56)
    have HBA6 := Lib.hid ((BAt.mods HBAC.out HM5.out (Nat.le_refl _) fun hne ad hA h => by
      obtain ⟨_, h1, h2, _⟩ := HA.out hne ad hA
      exact h.elim h1 h2).below hb56)
    have HKW6 := Lib.hid ((HKW.out.mods HM5.out HKW.out.lt (hFw _ (by have := HGW.out; have := HB12.out.size; omega))).below_ hb56)
    have hle5 : wc.heap.size ≤ w5.heap.size := HM5.out.size
    have hle6 : w5.heap.size < w6.heap.size := HB6.out.lt
    obtain ⟨Ao, co, hve, hbo⟩ := ByAt.bat (show ByAt w6 _ bs (.slice A2 bs.length c2) from HV6.out)
    injection hve with hv1 _ hv2
    subst hv1 hv2
    have q2 := (HKO6.out.cell 2).trans (show _ = some (.slice A L cap) from rfl)
    have q3 := run_toString (P := Tryd.prog) (w := w6) (ts := 9) Frame.byteTy strTy c2 hbo rfl
    have q4 := run_toString (P := Tryd.prog) (w := w6) (ts := 9) Frame.byteTy strTy cap HBA6.out HL.out
    generalize (⟨bs.toArray⟩ : ByteArray) = S at q3 q4
    have hlo6 := HKO6.out.lt
    clear hbo hb56 hnot hFw HN8 HG6 HB HKC HVC HBAC HKW HY c1 hls hlk
    go_upto_region 6 with fail
    clear q2 q3 q4 hlo6
    go_wp2_with fail
    have hbl : bs.length ≤ 140737488355327 := by rw [HL.out]; exact hLm
    go_loopw [10] (fun kv wx => NineV w6 K A2 bs.length c2 kv wx) (fun kv _ => bs.length - (intOf kv).toNat)
    case atStart => exact ⟨0, _, Nat.zero_le _, rfl, HV6.out, Mods.refl _ _ _⟩
    case round =>
      obtain ⟨k, xs, hk, rfl, hv, hmx⟩ := hrel
      have HVX := Lib.hid hv
      have HMX := Lib.hid hmx
      clear hv hmx
      by_cases hlt : k < bs.length
      · have hkI : (k : Int) < (bs.length : Int) := by omega
        obtain ⟨g0, _, _, hA2, hg0, _⟩ := HVX.out.form (by omega)
        injection hA2 with hA2 _ _
        subst hA2
        obtain ⟨u, hu⟩ : ∃ u, xs[k]? = some u := ⟨_, List.getElem?_eq_getElem (by rw [HVX.out.len]; omega)⟩
        have hcell := HVX.out.at_ hu
        have hfree := HVX.out.free (by omega) k
        have HK0 := Lib.hid hg0
        clear hg0 hu
        go_wp2_with fail
        go_roundw
        case rel => exact ⟨k + 1, _, hlt, by go_num, HVX.out.set k _, HMX.out.setCell (p := ⟨g0, k, none⟩) (.inl HK0.out) _⟩
        case measure => simp [intOf]; omega
      · obtain rfl : k = bs.length := by omega
        have hkI : ¬ ((bs.length : Nat) : Int) < (bs.length : Int) := by omega
        have HSW := Lib.hid (HXC.out.app HAPP.out ((Mods.of_below HB56.out).trans (HMX.out.mono (Nat.le_of_lt hle6) fun _ _ h => h)) (fun g hg hK => by have := (HX.out.hot.st.lt g hg).2; have := (HKR.out g hK).1; omega) (fun g hg hK => by have := (HX.out.hot.lt g hg).2; have := (HKR.out g hK).1; omega) (fun g hg hK => by have := (HX.out.lt g hg).2; have := (HKR.out g hK).1; omega) (fun hK => by have := HX.out.blk.lt; have := (HKR.out s hK).1; omega) (fun g hK => ⟨by have := HX.out.hB; have := (HKR.out g hK).1; omega, by have := HSZ.out; have := (HKR.out g hK).2; omega⟩))
        have hsz2 := HSZ.out
        have HKOx := Lib.hid (HKO6.out.mods HMX.out HKO6.out.lt fun hK => by have := (HKR.out _ hK).1; omega)
        have HPx := Lib.hid (HB6.out.mods HMX.out HB6.out.lt fun hK => by have := (HKR.out _ hK).2; omega)
        have HWx := Lib.hid (HKW6.out.mods HMX.out HKW6.out.lt fun hK => by have := (HKR.out _ hK).2; have := HGW.out; omega)
        have hsx : w6.heap.size ≤ wr.heap.size := HMX.out.size
        have HBAx := Lib.hid (BAt.mods HBA6.out HMX.out (Nat.le_refl _) fun hne ad hA h => by
          have := (HA.out hne ad hA).1
          have := (HKR.out _ h).1
          omega)
        have HBL := Lib.hid (show Below B w wr from ((HBC.out.mono HX.out.hB).trans ((HM5.out.mono (Nat.le_trans HX.out.hB HBC.out.size) fun _ _ h => h).below fun g hg hf => hf.elim (fun h => by have := (HX.out.hot.st.lt g h).1; omega) (fun h => by have := (HX.out.hot.lt g h).1; omega))).trans ((HB56.out.mono (by have := HX.out.hB; have := HBC.out.size; omega)).trans ((HMX.out.mono (by have := HX.out.hB; have := HBC.out.size; omega) fun _ _ h => h).below fun g hg hf => by have := (HKR.out g hf).1; have := HX.out.hB; omega)))
        have HMR := Lib.hid (show Mods w.heap.size (fun g => F g ∨ H g ∨ g = s) w wr from ((Mods.of_below HBC.out).trans (HM5.out.mono HBC.out.size fun g _ h => h.elim .inl fun h => .inr (.inl h))).trans (((Mods.of_below HB56.out).mono (by have := HBC.out.size; omega) fun _ _ h => h).trans (HMX.out.mono (by have := HBC.out.size; omega) fun g hg hK => by have := (HKR.out g hK).1; omega)))
        have q2 := (HKOx.out.cell 2).trans (show _ = some (.slice A L cap) from rfl)
        have hlo6 := HKOx.out.lt
        clear HVX HMX HV6 HKO6 HB6 HKW6 HBA6 HAPP HM5 HB56
        have hgd := fun W x y xs ys => guard_pc .eql x y xs ys W
        have hLe : bs.length = L := HL.out
        have hcL : costM bs.length = costM L := by rw [hLe]
        rcases HSW.out with ⟨h512, rfl, rfl, rfl, rfl, hsb⟩ | ⟨h512, hv⟩
        · have hLI : (512 : Int) < (L : Int) := by omega
          have heq := fun W => (show _ = Result.ok (Value.bool true) W from eql_pc 0 0 0 false 0 0 0 false W)
          have HSB := Lib.hid hsb
          have k0 := (HPx.out.cell 0).trans (show _ = some (.int .i64 0) from rfl)
          have k1 := (HPx.out.cell 1).trans (show _ = some (.int .i64 0) from rfl)
          have k2 := (HPx.out.cell 2).trans (show _ = some (.int .i64 0) from rfl)
          have k3 := (HPx.out.cell 3).trans (show _ = some (.bool false) from rfl)
          have hlp := HPx.out.lt
          clear hsb hLe
          go_wp2_with fail
          go_ret
          refine ⟨rfl, HBL.out, h, F, H, G, pm, m, Hs, segs, hsed, used, bytes, ever, dims, HSB.out, ?_, ?_, ?_, ?_⟩ <;> omega
        · have hLI : ¬ (512 : Int) < (L : Int) := by omega
          have HAV := Lib.hid hv
          have hbk := hv.blk
          have r3 := (hbk.cell 3).trans (show _ = some (.int .i64 (ever : Int)) from rfl)
          have hz3 := hbk.frozen 3
          have hls := hbk.lt
          have hcl := cost_le (show L ≤ 512 by omega)
          have HCO := Lib.hid (fun W : World => rcost_any W L (by omega))
          have hw1 : IntKind.i64.wrap ((ever : Int) + (costM L : Int)) = ((ever + costM L : Nat) : Int) := by rw [IntWalk.i64_in _ (by omega)]; push_cast; rfl
          clear hv hbk hLe
          go_upto_region 12 with fail
          refine Ord.region_ord [8] [0, 1, 2, 3, 4, 5, 6, 7, 8, 9, 10, 11, 12] (by kernel_rfl) (by kernel_rfl) (by kernel_rfl) (by kernel_rfl) (Ord.ord_run [0, 1, 2, 3, 4, 5, 6, 7] [_, _, _, _, _, _, _, _] rfl (by kernel_rfl) ?_)
          go_wp2_with fail
          refine Ord.nx_ord (Ord.ord_one rfl ?_)
          go_wp2_with fail
          refine (HCO.out _).mono ?_
          rintro e _ ⟨rfl, rfl⟩
          go_wp2_with fail
          refine Ord.nx_and (Below.refl _ _) (Ord.ord_all [_, _, _, _] rfl (by kernel_rfl) ?_)
          go_wp2_with fail
          refine Ord.nx_end ?_
          have hb0 : Below wr.heap.size wr wr := Below.refl _ _
          have hms : Mods wr.heap.size (fun g => g = s) wr (wr.setCell ⟨s, 3, none⟩ (.int .i64 ((ever : Int) + (costM L : Int)))).drew := (Mods.setCell (F := fun g => g = s) (p := ⟨s, 3, none⟩) (Mods.refl _ _ _) (.inl rfl) _).drew
          have HAV2 := Lib.hid (show AppV B (wr.setCell ⟨s, 3, none⟩ (.int .i64 ((ever : Int) + (costM L : Int)))).drew s a h r F H G pm m n Hs segs hsed used bytes (ever + costM L) dims bs wc.heap.size xd xa xl code from (HAV.out.spent hb0 (costM L)).below (below_drewN (Below.refl _ _) 1))
          have hsw : s < w.heap.size := HX.out.blk.lt
          have hsz2 := HSZ.out
          have hs2 := HB12.out.size
          have HKO2 := Lib.hid (HKOx.out.mods hms HKOx.out.lt (by show ¬ w.heap.size = s; omega))
          have HP2 := Lib.hid (HPx.out.mods hms HPx.out.lt (by show ¬ w5.heap.size = s; omega))
          have HW2 := Lib.hid (HWx.out.mods hms HWx.out.lt (by show ¬ gW = s; have := HGW.out; omega))
          have HBA2 := Lib.hid (BAt.mods HBAx.out hms (Nat.le_refl _) fun hne ad hA e => (HA.out hne ad hA).2.2.2.2 e)
          have HBL2 := Lib.hid (HBL.out.trans ((hms.mono (by have := HX.out.hB; have := HBC.out.size; omega) fun _ _ h => h).below fun g hg e => by have := HX.out.sB; omega))
          have HMW := Lib.hid (HMR.out.trans (hms.mono (by have := HBC.out.size; omega) fun g _ e => .inr (.inr e)))
          have hsx2 : wr.heap.size ≤ (wr.setCell ⟨s, 3, none⟩ (.int .i64 ((ever : Int) + (costM L : Int)))).drew.heap.size := hms.size
          generalize (wr.setCell ⟨s, 3, none⟩ (.int .i64 ((ever : Int) + (costM L : Int)))).drew = wq at *
          clear HAV HKOx HPx HWx HBAx HBL hms hb0 r3 hz3 hls q2 hlo6 HCO hw1
          have hrm : Room (n / 16) ever used := by rw [HX.out.hot.size]; exact HX.out.room
          have hoks := HX.out.oks
          have hn4 := HX.out.n4
          have hlo : w.heap.size < wq.heap.size := by omega
          have hlp : w5.heap.size < wq.heap.size := by omega
          have hlw := HW2.out.lt
          rcases HAV2.out with ⟨hf, rfl, rfl, rfl, rfl, hy⟩ | ⟨k, hf, rfl, rfl, rfl, rfl, F', H', pm', segs', hF', hH', hon, hsl, hy⟩ | ⟨k, hf, rfl, rfl, rfl, rfl, F', H', pm', i, hF', hH', hoff, hi, hy⟩
          · rw [hcL] at hf
            obtain rfl : rr = none := HRR.out.unique hf
            have hfull := hrm.full hoks.1 hcl.1 hcl.2 hf
            have HY := Lib.hid hy
            obtain ⟨c0, c1, c2', c3, c4⟩ := hy.c0
            obtain ⟨U2, V2, vs2, y⟩ := hy.ref
            have r1 := (y.blk.cell 1).trans (show _ = some (.int .i64 (n : Int)) from rfl)
            have hlr := y.blk.lt
            have hls := hy.blk.lt
            have k0 := (HP2.out.cell 0).trans (show _ = some (.int .i64 0) from rfl)
            have k1 := (HP2.out.cell 1).trans (show _ = some (.int .i64 0) from rfl)
            have k2 := (HP2.out.cell 2).trans (show _ = some (.int .i64 0) from rfl)
            have k3 := (HP2.out.cell 3).trans (show _ = some (.bool false) from rfl)
            have heq := fun W => (show _ = Result.ok (Value.bool true) W from eql_pc 0 0 0 false 0 0 0 false W)
            have hq : (n : Int).tdiv 16 = (n : Int) / 16 := Int.tdiv_eq_ediv_of_nonneg (by omega)
            have hw1 : IntKind.i64.wrap ((n : Int) / 16) = (n : Int) / 16 := IntWalk.i64_in _ (by omega)
            have hw2 : IntKind.i64.wrap (8 * ((n : Int) / 16)) = 8 * ((n : Int) / 16) := IntWalk.i64_in _ (by omega)
            have hgt : 8 * ((n : Int) / 16) < (ever : Int) + (costM L : Int) := by omega
            clear hy y hf hrm hoks
            go_wp2_with fail
            go_quiet (fail)
            go_wp2_with fail
            go_ret
            refine ⟨rfl, HBL2.out.trans (below_drewN (Below.refl _ _) nq), h, F, H, G, pm, m, Hs, segs, hsed, used, bytes, ever + costM L, dims, HY.out.below (below_drewN (Below.refl _ _) nq), ?_, ?_, ?_, ?_⟩ <;> omega
          · rw [hcL] at hf
            obtain rfl : rr = some k := HRR.out.unique hf
            have HF := Lib.hid hf
            have HY := Lib.hid hy
            obtain ⟨_, _, c2', _, _⟩ := (show Blk wq s _ _ from hy.blk).cell 0 |> fun _ => (⟨(hy.blk.cell 0).trans rfl, (hy.blk.cell 1).trans rfl, (hy.blk.cell 2).trans rfl, (hy.blk.cell 3).trans rfl, (hy.blk.cell 4).trans rfl⟩ : wq.cell? ⟨s, 0, none⟩ = some (.pointer (some ⟨a, 0, none⟩)) ∧ wq.cell? ⟨s, 1, none⟩ = some (.pointer (some ⟨h, 0, none⟩)) ∧ wq.cell? ⟨s, 2, none⟩ = some (.pointer (some ⟨r, 0, none⟩)) ∧ wq.cell? ⟨s, 3, none⟩ = some (.int .i64 ((ever + costM L : Nat) : Int)) ∧ wq.cell? ⟨s, 4, none⟩ = some (.int .i64 (dims : Int)))
            have hls := hy.blk.lt
            obtain ⟨U2, V2, vs2, y⟩ := hy.ref
            have HADD := Lib.hid (fun W (hb : Below wq.heap.size wq W) => radd_any (y.below hb) (k, costM L) bs A L cap (HBA2.out.below hb) HL.out (by omega) (fun ad hA h0 => by
              obtain ⟨h1, _, _, h2, _⟩ := HA.out (by rintro rfl; have := HL.out; simp at this; omega) ad hA
              exact ⟨by have := hb.size; omega, h2⟩) (by omega))
            have k0 := (HW2.out.cell 0).trans (show _ = some (.int .i64 1) from rfl)
            have k1 := (HW2.out.cell 1).trans (show _ = some (.int .i64 (k : Int)) from rfl)
            have k2 := (HW2.out.cell 2).trans (show _ = some (.int .i64 (costM L : Int)) from rfl)
            have k3 := (HW2.out.cell 3).trans (show _ = some (.bool false) from rfl)
            have q2 := (HKO2.out.cell 2).trans (show _ = some (.slice A L cap) from rfl)
            clear hy y hf hrm hoks
            go_upto_region 21 with fail
            refine Ord.region_ord [] [0, 1, 2, 3, 4, 5, 6, 7] (by kernel_rfl) (by kernel_rfl) (by kernel_rfl) (by kernel_rfl) (Ord.ord_all [_, _, _, _, _, _, _, _] rfl (by kernel_rfl) ?_)
            go_wp2_with fail
            refine (HADD.out _ (below_drewN (Below.refl _ _) 1)).mono ?_
            rintro e w8 ⟨rfl, hat, hm8⟩
            have HAT := Lib.hid hat
            have HM8 := Lib.hid hm8
            clear hat hm8 k0 k1 k2 k3 q2 c2' HADD
            go_wp2_with fail
            refine Ord.nx_end ?_
            have HM9 := Lib.hid (show Mods wq.heap.size G wq w8 from ((Mods.refl wq.heap.size G wq).drew).trans HM8.out)
            have HSB : Hid (StandB B w8 s a h r F' H' (Grow G wq.drew w8) pm' (m + 17) n (setAll (wsM k (textM bs) (costM bs.length)) Hs) segs' (hsed ++ [(k, costM bs.length)]) (used ++ [(k, costM L)]) (bytes ++ [bs]) (ever + costM L) dims) := Lib.hid (by
              have hz := ((HY.out.below (below_drewN (Below.refl _ _) 1)).refStep HAT.out HM8.out)
              have hok := HX.out.oks
              have hfc := HF.out
              rw [← hcL] at hfc
              have hroom := Room.add (by rw [HX.out.hot.size]; exact HX.out.room : Room (n / 16) ever used) hok.1 hfc
              have hlen := HX.out.hot.disk.len HX.out.hot.st.ok
              have hheld := HX.out.held.add HX.out.len h512 hfc.1 (by rw [hlen]; omega)
              rw [hcL] at hz hroom hheld ⊢
              refine hz.all (HX.out.perm.append_right _) hon hheld ?_ HX.out.n1 HX.out.n4
              rw [hsl, ← HX.out.hot.size]
              exact hroom)
            have HP9 := Lib.hid (HP2.out.mods HM9.out hlp fun hG => by have := (HX.out.lt _ hG).2; omega)
            have HW9 := Lib.hid (HW2.out.mods HM9.out hlw fun hG => by have := (HX.out.lt _ hG).2; have := HGW.out; omega)
            have HBL9 := Lib.hid (HBL2.out.trans ((HM9.out.mono (by have := HX.out.hB; omega) fun _ _ h => h).below fun g hg hG => by have := (HX.out.lt g hG).1; omega))
            have k0 := (HP9.out.cell 0).trans (show _ = some (.int .i64 1) from rfl)
            have k1 := (HP9.out.cell 1).trans (show _ = some (.int .i64 (k : Int)) from rfl)
            have k2 := (HP9.out.cell 2).trans (show _ = some (.int .i64 (costM bs.length : Int)) from rfl)
            have k3 := (HP9.out.cell 3).trans (show _ = some (.bool false) from rfl)
            have t0 := (HW9.out.cell 0).trans (show _ = some (.int .i64 1) from rfl)
            have t1 := (HW9.out.cell 1).trans (show _ = some (.int .i64 (k : Int)) from rfl)
            have t2 := (HW9.out.cell 2).trans (show _ = some (.int .i64 (costM L : Int)) from rfl)
            have t3 := (HW9.out.cell 3).trans (show _ = some (.bool false) from rfl)
            rw [hcL] at k2
            have heq := fun W => (show _ = Result.ok (Value.bool true) W from (eql_pc 1 (k : Int) (costM L : Int) false 1 (k : Int) (costM L : Int) false W).trans (by simp [pcEq]))
            have hlp9 := HP9.out.lt
            have hlw9 := HW9.out.lt
            clear hlp hlw hlo hsx2
            go_wp2_with fail
            go_ret
            refine ⟨rfl, HBL9.out, h, F', H', _, pm', m + 17, _, segs', _, _, _, ever + costM L, dims, HSB.out, ?_, ?_, ?_, ?_⟩
            · omega
            · omega
            · omega
            · simp
          · rw [hcL] at hf
            obtain rfl : rr = some k := HRR.out.unique hf
            have HF := Lib.hid hf
            have HY := Lib.hid hy
            have hls := hy.blk.lt
            have c0 := (hy.blk.cell 0).trans (show _ = some (.pointer (some ⟨a, 0, none⟩)) from rfl)
            have k0 := (HP2.out.cell 0).trans (show _ = some (.int .i64 0) from rfl)
            have k1 := (HP2.out.cell 1).trans (show _ = some (.int .i64 0) from rfl)
            have k2 := (HP2.out.cell 2).trans (show _ = some (.int .i64 0) from rfl)
            have k3 := (HP2.out.cell 3).trans (show _ = some (.bool false) from rfl)
            have q7 := (HKO2.out.cell 7).trans (show _ = some (.slice KA kl kc) from rfl)
            have hneq := fun W => (show _ = Result.ok (Value.bool false) W from neq_pc 0 0 0 false 0 0 0 false W)
            have hgn := fun W x y xs ys => guard_pc .neq x y xs ys W
            have HON := Lib.hid (show Calls Tryd.prog _ _ wq _ from on_any hy.hot.st.at_)
            rw [hoff] at HON
            have HIA := Lib.hid (HKP.out.mods HMW.out (Nat.le_refl _) fun hne ad hA h => by
              obtain ⟨_, h1, h2, _, h3⟩ := HKA.out hne ad hA
              exact h.elim h1 fun h => h.elim h2 h3)
            have HBT := Lib.hid (fun W (hb : Below wq.heap.size wq W) => (hy.below hb).hot.st.boot (hy.below hb).hB (by omega) KA kl kc keep (HIA.out.below hb) HKL.out (fun hne ad hA h => by
              obtain ⟨h0, h1, _⟩ := HKA.out hne ad hA
              rcases hF' _ h with h | h
              · exact h1 h
              · have := HBC.out.size; omega) hkm)
            clear hy hf hrm hoks
            go_upto_region 18 with
              (refine HON.out.mono ?_
               rintro e _ ⟨rfl, rfl⟩)
            refine Ord.region_ord [] [0, 1, 2, 3, 4, 5, 6] (by kernel_rfl) (by kernel_rfl) (by kernel_rfl) (by kernel_rfl) (Ord.ord_all [_, _, _, _, _, _, _] rfl (by kernel_rfl) ?_)
            go_wp2_with fail
            refine (HBT.out _ (below_drewN (Below.refl _ _) 1)).mono ?_
            rintro e w8 ⟨rfl, hg⟩
            have HG := Lib.hid hg
            clear hg k0 k1 k2 k3 q7 c0 HON HBT
            go_wp2_with fail
            refine Ord.nx_end ?_
            obtain ⟨vs, hsub, hsm⟩ := (HY.out.below (below_drewN (Below.refl wq.heap.size wq) 1)).booted HG.out
            have HM9 := Lib.hid (show Mods wq.heap.size F' wq w8 from ((Mods.refl wq.heap.size F' wq).drew).trans HG.out.2)
            have HS9 := Lib.hid (show StandB B (w8.setCell ⟨s, 4, none⟩ (.int .i64 ((dims : Int) + 1))) s a h r (Grow F' wq.drew w8) H' G (pm'.boot keep) (m + 17 + 1) n (setAll vs Hs) segs hsed used bytes (ever + costM L) (dims + 1) from
              (hsm.set4 1).all HX.out.perm rfl (HX.out.held.booted HF.out (show i ≤ costM L by omega) hsub) (HX.out.room.more (Nat.le_add_right _ _)) HX.out.n1 HX.out.n4)
            have HBL9 := Lib.hid (HBL2.out.trans ((HM9.out.mono (by have := HX.out.hB; omega) fun _ _ h => h).below fun g hg hF => by have := (HY.out.hot.st.lt g hF).1; omega))
            have hlw8 : wq.heap.size ≤ w8.heap.size := HM9.out.size
            have r4 := (hsm.blk.cell 4).trans (show _ = some (.int .i64 (dims : Int)) from rfl)
            have hz4 := hsm.blk.frozen 4
            have hls8 := hsm.blk.lt
            have hw1 : IntKind.i64.wrap ((dims : Int) + 1) = (dims : Int) + 1 := IntWalk.i64_in _ (by omega)
            have HOP := Lib.hid (opened_any HS9.out (by omega) (by omega))
            clear hsm hsub
            go_wp2_with fail
            refine HOP.out.mono ?_
            rintro e w10 ⟨rfl, h', H'', segs', hsed', hz, _, _, hm10⟩
            go_wp2_with fail
            go_ret
            have hsB := HX.out.sB
            have hBw := HX.out.hB
            refine ⟨rfl, (HBL9.out.setCell (p := ⟨s, 4, none⟩) hsB _).trans ((hm10.mono (by simp; omega) fun _ _ h => h).below fun g hg e => by omega), h', _, H'', G, pm'.boot keep, m + 17 + 1, _, segs', hsed', used, bytes, ever + costM L, dims + 1, hz, ?_, ?_, ?_, ?_⟩ <;> omega
end Go.Proofs.YtgcckfaljfkkhaaDoor.Hot
