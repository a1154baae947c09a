/- The hot disk's 'Read': an object's bytes, or that it is corrupt. -/
import Derived.Test.YtgcckfaljfkkhaaDoorFold12
namespace Go.Proofs.YtgcckfaljfkkhaaDoor.Hot
open Go Go.RowKit Mem Pl Disk Crc _root_.Go.Proofs.YtgcckfaljfkkhaaDoor.Frame
/-- The first sectors of a place, joined. -/
def joinH (Hs : List (List UInt8)) (at_ : Nat) : Nat → List UInt8
  | 0 => []
  | i + 1 => joinH Hs at_ i ++ Hs.getD (at_ + i) zeros
theorem joinH_holds {Hs : List (List UInt8)} {x : Pc} {t : List UInt8} (h : Holds Hs x t) : ∀ i, i ≤ x.2 → joinH Hs x.1 i = joinM t i
  | 0, _ => rfl
  | i + 1, hi => by
    unfold joinH joinM
    rw [joinH_holds h i (by omega), List.getD_eq_getElem?_getD, h i (by omega)]
    rfl
theorem joinH_len {Hs : List (List UInt8)} (h : ∀ b ∈ Hs, b.length = 64) (at_ : Nat) : ∀ i, (joinH Hs at_ i).length = 64 * i
  | 0 => rfl
  | i + 1 => by
    unfold joinH
    have hs : (Hs.getD (at_ + i) zeros).length = 64 := by
      rw [List.getD_eq_getElem?_getD]
      cases hk : Hs[at_ + i]? with
      | none => exact zeros_len
      | some b => exact h b (List.mem_of_getElem? hk)
    rw [List.length_append, joinH_len h at_ i, hs]
    omega
/-- What is read of a place. -/
def readM (Hs : List (List UInt8)) (u : Pc) : Option (List UInt8) := match unpackM (joinH Hs u.1 u.2) with
  | some (k, b, _) => if k = 1 ∧ costM b.length = u.2 then some b else none
  | none => none
theorem readM_holds {Hs : List (List UInt8)} {at_ : Nat} {bs : List UInt8} (hl : bs.length ≤ 512) (h : Holds Hs (at_, costM bs.length) (textM bs)) : readM Hs (at_, costM bs.length) = some bs := by
  unfold readM
  show (match unpackM (joinH Hs at_ (costM bs.length)) with | some (k, b, _) => if k = 1 ∧ costM b.length = costM bs.length then some b else none | none => none) = _
  rw [show joinH Hs at_ (costM bs.length) = textM bs from (joinH_holds h _ (Nat.le_refl _)).trans (joinM_all (textM_len bs)), unpack_text hl]
  simp
theorem unpack_le {t : List UInt8} {k : UInt8} {p q : List UInt8} (h : unpackM t = some (k, p, q)) : p.length ≤ t.length := by
  have := congrArg List.length (pack_unpack t k p q h)
  rw [List.length_append, pack_length] at this
  omega
/-- What 'Read' answers. -/
def ReadP (w : World) (Hs : List (List UInt8)) (u : Pc) (e : Ending) (w' : World) : Prop := match readM Hs u with
  | some b => ∃ A m cap, e = .returned (.tuple #[.slice A m cap, .int .i64 0]) ∧ Own w' w.heap.size 5 A m cap b ∧ Below w.heap.size w w'
  | none => e = .returned (.tuple #[.slice none 0 0, .int .i64 4]) ∧ Below w.heap.size w w'
def ReadR (w : World) (Hs : List (List UInt8)) (used : List Pc) (r : Option Nat) (e : Ending) (w' : World) : Prop := match r with
  | none => e = .returned (.tuple #[.slice none 0 0, .int .i64 31]) ∧ Below w.heap.size w w'
  | some k => ∃ u, used[k]? = some u ∧ ReadP w Hs u e w'
def LoopT (_W w1 : World) (Hs : List (List UInt8)) (u : Pc) (iv tv : Value) (wr : World) : Prop :=
  ∃ (i : Nat) (A : Option Addr) (c : Nat), i ≤ u.2 ∧ iv = .int .i64 (i : Int) ∧ tv = .slice A (64 * i) c ∧ Own wr w1.heap.size 5 A (64 * i) c (joinH Hs u.1 i) ∧ Below w1.heap.size w1 wr
set_option maxRecDepth 100000 in
set_option maxHeartbeats 8000000 in
theorem hread_any {B : Nat} {w : World} {F : Nat → Prop} {a : Nat} {pm : PM} {n : Nat} (hs : St B w F a pm n) (hn : n ≤ 1000000000) {H : Nat → Prop} {h dev : Nat} {segs : List Nat} {used : List Pc} {S U : Value} (x : HotB w H h a dev segs used S U) (hok : HotOk segs used) (hul : used.length ≤ 1000000000)
    {N : Nat} {Hs : List (List UInt8)} (hd : Disk pm dev N Hs []) (hon : pm.off = false) (hN : N / 16 = segs.length) (ht : Tab w) (hg : 1 < w.heap.size) (d at_ len : Int) (b : Bool) :
    Calls Tryd.prog 26 #[.pointer (some ⟨h, 0, none⟩), .agg #[.int .i64 d, .int .i64 at_, .int .i64 len, .bool b]] w fun e w' => ∃ r, FindIs used (isP dev d at_ len) r ∧ ReadR w Hs used r e w' := by
  have HX := Lib.hid x
  have HOK := Lib.hid hok
  have HST := Lib.hid hs
  have HD := Lib.hid hd
  have HON := Lib.hid hon
  have HT := Lib.hid ht
  clear x hok hs hd hon ht
  go_enter Tryd.func26, Tryd.ntmps26
  go_wp2_with fail
  have hb1 : Below w.heap.size w (w.alloc (.cells #[.int .i64 d, .int .i64 at_, .int .i64 len, .bool b] 36)) := below_al' _
  have HB1 := Lib.hid hb1
  have HK := Lib.hid (Blk.new w 36 #[.int .i64 d, .int .i64 at_, .int .i64 len, .bool b])
  have HX1 := Lib.hid (HX.out.below hb1)
  have HST1 := Lib.hid (HST.out.below hb1)
  clear hb1
  generalize w.alloc (.cells #[.int .i64 d, .int .i64 at_, .int .i64 len, .bool b] 36) = w1 at *
  have k0 := (HK.out.cell 0).trans (show _ = some (.int .i64 d) from rfl)
  have k1 := (HK.out.cell 1).trans (show _ = some (.int .i64 at_) from rfl)
  have k2 := (HK.out.cell 2).trans (show _ = some (.int .i64 len) from rfl)
  have k3 := (HK.out.cell 3).trans (show _ = some (.bool b) from rfl)
  go_wp2_with fail
  refine (find_any HX1.out hul d at_ len b).mono ?_
  rintro e w2 ⟨r, hr, rfl, hb2⟩
  have HR := Lib.hid hr
  have HB2 := Lib.hid (HB1.out.trans (hb2.mono HB1.out.size))
  have HX2 := Lib.hid (HX1.out.below hb2)
  have HK2 := Lib.hid (HK.out.below_ hb2)
  have HST2 := Lib.hid (HST1.out.below hb2)
  clear hr hb2 HX1 HK HB1 HST1 HX HST k0 k1 k2 k3
  cases r with
  | none =>
    unfold findI
    go_wp2_with fail
    go_ret2
    exact ⟨none, HR.out, rfl, HB2.out⟩
  | some k =>
    obtain ⟨⟨u, hu, hp⟩, _⟩ := HR.out
    obtain ⟨rfl, rfl, rfl⟩ := isP_true hp
    have hkl := (List.getElem?_eq_some_iff.1 hu).1
    have hmem : u ∈ used := List.mem_of_getElem? hu
    have HU := Lib.hid hu
    have HOU := Lib.hid (HOK.out.ok u hmem)
    have hu1 := HOK.out.lt hmem
    have hu2 : u.2 ≤ 16 := HOU.out.2.1
    clear hu hp hmem
    have hneg : ¬ (k : Int) < 0 := by omega
    have k2 := (HK2.out.cell 2).trans (show _ = some (.int .i64 (u.2 : Int)) from rfl)
    unfold findI
    go_wp2_with fail
    go_loopw [20, 6] (fun iv tv wr => LoopT w w2 Hs u iv tv wr) (fun iv _ _ => u.2 - (intOf iv).toNat)
    case atStart => exact ⟨0, none, 0, by omega, rfl, rfl, Own.nil_ _ _ _, Below.refl _ _⟩
    case round =>
      obtain ⟨i, A, c, hi, rfl, rfl, hown, hbl⟩ := hrel
      have HO := Lib.hid hown
      have HBL := Lib.hid hbl
      have HXR := Lib.hid (HX2.out.below hbl)
      have HKR := Lib.hid (HK2.out.below_ hbl)
      have HSTR := Lib.hid (HST2.out.below hbl)
      clear hown hbl k2
      by_cases hlt : i < u.2
      · have hiI : (i : Int) < (u.2 : Int) := by omega
        have c0 := HXR.out.c0
        have c1 := HXR.out.c1
        have k1 := (HKR.out.cell 1).trans (show _ = some (.int .i64 (u.1 : Int)) from rfl)
        have hwa : IntKind.i64.wrap ((u.1 : Int) + (i : Int)) = (u.1 : Int) + (i : Int) := IntWalk.i64_in _ (by omega)
        have hpl : u.1 + i < N := by
          have h1 := HOU.out.2.2.1
          have h2 := HOU.out.2.2.2
          omega
        have hrd : pm.read (dev : Int) ((u.1 + i : Nat) : Int) = (some (Hs.getD (u.1 + i) zeros), 0) := HD.out.read HON.out hpl
        have hra := fun w' (hb : Below wr.heap.size wr w') => read_any (HSTR.out.below hb).at_ HSTR.out.ok (HSTR.out.low hn) (dev : Int) ((u.1 + i : Nat) : Int)
        rw [hrd] at hra
        have HRA := Lib.hid hra
        have HSL : Hid ((Hs.getD (u.1 + i) zeros).length = 64) := Lib.hid (HSTR.out.ok.at_len HD.out.dev (u.1 + i))
        have hcast : ((u.1 + i : Nat) : Int) = (u.1 : Int) + (i : Int) := by omega
        rw [hcast] at HRA
        clear hrd hcast hra
        go_wp2_with fail
        refine Ord.region_ordM [12] [11] [0, 1, 2, 3, 4, 5, 6, 7, 8, 9, 10, 11, 12, 13, 14, 15, 16, 17] (by kernel_rfl) (by kernel_rfl) (by kernel_rfl) (by kernel_rfl) (Ord.ord_run [0, 1, 2, 3, 4, 5, 6, 7, 8, 9, 10] [_, _, _, _, _, _, _, _, _, _, _] rfl (by kernel_rfl) ?_)
        go_wp2_with fail
        refine Ord.nx_ord (Ord.ord_pure (.int .i64 ((u.1 : Int) + (i : Int))) rfl (by kernel_rfl) rfl (fun w' => by first | (go_simp; done) | (go_simp; exact hwa)) ?_)
        simp only [Act.put, List.setIfInBounds_toArray]
        refine Ord.ord_oneM rfl (by kernel_rfl) ?_
        go_wp2_with fail
        refine (HRA.out _ (below_drewN (Below.refl _ _) 1)).mono ?_
        rintro e w4 ⟨A4, N4, c4, rfl, ho4, hb4⟩
        have hn4 : N4 = 64 := by have := ho4.len; rw [← this]; exact HSL.out
        subst hn4
        have HB4 := Lib.hid hb4
        have hb4' : Below wr.heap.size wr w4 := Below.trans (show Below wr.heap.size wr (wr.drewN 1) from below_drewN (Below.refl _ _) 1) (show Below wr.heap.size (wr.drewN 1) w4 from hb4)
        have HC4 := Lib.hid (HBL.out.trans (hb4'.mono HBL.out.size))
        have HO4 := Lib.hid ho4.bat
        have HOT := Lib.hid (HO.out.below hb4')
        have hsz4 : w2.heap.size ≤ w4.heap.size := HC4.out.size
        clear ho4 hb4 hb4' k1
        go_wp2_with fail
        refine Ord.nx_and HB4.out (Ord.ord_all [_, _, _, _, _] rfl (by kernel_rfl) ?_)
        go_wp2_with fail
        refine Ord.nx_end ?_
        go_wp2_with
          (refine wpList_append_bytes rfl (.tmp 42) (.tmp 43) _ rfl w2.heap.size _ Pl.byteTy A (64 * i) c _ rfl HOT.out A4 64 c4 _ rfl HO4.out HSL.out (64 * (i + 1)) (by omega) (by omega) hsz4 ?_
           intro A5 c5 w5 ho5 hg5 hb5 _
           have HO5 := Lib.hid ho5
           have HC5 := Lib.hid (HC4.out.trans hb5)
           clear ho5 hg5 hb5)
        go_roundw
        case rel => exact ⟨i + 1, A5, c5, by omega, by simp, rfl, HO5.out, HC5.out⟩
        case measure => simp [intOf]; omega
      · obtain rfl : i = u.2 := by omega
        have hTR := HT.out.below HB2.out hg
        have hgr : 1 < w2.heap.size := Nat.lt_of_lt_of_le hg HB2.out.size
        have HTR := Lib.hid (hTR.below HBL.out hgr)
        have hjl := joinH_len (HD.out.sec HSTR.out.ok) u.1 u.2
        have hcl := HO.out.cap_le
        have HUN := Lib.hid (unpack_any A _ (64 * u.2) c wr hjl hcl.1 (by omega) HO.out.bat HTR.out)
        have HWW := Lib.hid (HB2.out.trans (HBL.out.mono HB2.out.size))
        clear hTR hgr hjl hcl
        go_wp2_with fail
        refine HUN.out.mono ?_
        intro e w6 hU
        cases hq : unpackM (joinH Hs u.1 u.2) with
        | none =>
          rw [hq] at hU
          obtain ⟨rfl, hb6⟩ := hU.none_
          have HM : Hid (readM Hs u = none) := Lib.hid (by unfold readM; rw [hq])
          have HW6 := Lib.hid (HWW.out.trans (hb6.mono HWW.out.size))
          clear hU hb6 hq
          go_wp2_with fail
          go_quiet (fail)
          go_wp2_with fail
          go_ret2
          refine ⟨some k, HR.out, u, HU.out, ?_⟩
          unfold ReadP
          rw [HM.out]
          exact ⟨rfl, below_drewN HW6.out _⟩
        | some v =>
          obtain ⟨kd, bs, qs⟩ := v
          rw [hq] at hU
          obtain ⟨A1, N1, c1, A2, N2, c2, rfl, ho1, _, hb6, _⟩ := hU.some_
          have HO1 := Lib.hid ho1
          have hn1 : bs.length = N1 := ho1.len
          have hn1b : N1 ≤ 1024 := by
            have h1 := unpack_le hq
            have h2 := joinH_len (HD.out.sec HSTR.out.ok) u.1 u.2
            omega
          have HW6 := Lib.hid (HWW.out.trans (hb6.mono HWW.out.size))
          have HK6 := Lib.hid (HKR.out.below_ hb6)
          have k2 := (HK6.out.cell 2).trans (show _ = some (.int .i64 (u.2 : Int)) from rfl)
          have HCO := Lib.hid (fun w' : World => (cost_any w' N1 (by omega)).mono fun e w'' x => (⟨x.1, x.2.symm⟩ : _ ∧ _))
          have HQ := Lib.hid hq
          have hbase : w.heap.size ≤ wr.heap.size := HWW.out.size
          clear hU hq ho1 hb6
          by_cases hk1 : kd = 1
          · have hkb : (V8 kd != 1) = false := by subst hk1; rfl
            by_cases hc : costM N1 = u.2
            · have hcb : ((costM N1 : Int) != (u.2 : Int)) = false := by rw [bne_eq_false_iff_eq]; omega
              have HM : Hid (readM Hs u = some bs) := Lib.hid (by unfold readM; rw [HQ.out]; simp only; rw [if_pos ⟨hk1, by rw [hn1]; exact hc⟩])
              go_wp2_with fail
              go_quiet ((go_at_call 34; exact Calls.quiet_of_same (HCO.out _)))
              go_wp2_with fail
              go_ret2
              refine ⟨some k, HR.out, u, HU.out, ?_⟩
              unfold ReadP
              rw [HM.out]
              exact ⟨A1, N1, c1, rfl, (HO1.out.mono hbase).below (below_drewN (Below.refl _ _) _), below_drewN HW6.out _⟩
            · have hcb : ((costM N1 : Int) != (u.2 : Int)) = true := by rw [bne_iff_ne]; omega
              have HM : Hid (readM Hs u = none) := Lib.hid (by unfold readM; rw [HQ.out]; simp only; rw [if_neg (fun h => hc (by rw [← hn1]; exact h.2))])
              go_wp2_with fail
              go_quiet ((go_at_call 34; exact Calls.quiet_of_same (HCO.out _)))
              go_wp2_with fail
              go_ret2
              refine ⟨some k, HR.out, u, HU.out, ?_⟩
              unfold ReadP
              rw [HM.out]
              exact ⟨rfl, below_drewN HW6.out _⟩
          · have hkb : (V8 kd != 1) = true := by
              rw [bne_iff_ne]
              intro h
              exact hk1 (UInt8.toNat_inj.1 (by unfold V8 at h; have h1 : (1 : UInt8).toNat = 1 := rfl; omega))
            have HM : Hid (readM Hs u = none) := Lib.hid (by unfold readM; rw [HQ.out]; simp only; rw [if_neg (fun h => hk1 h.1)])
            go_wp2_with fail
            go_quiet (fail)
            go_wp2_with fail
            go_ret2
            refine ⟨some k, HR.out, u, HU.out, ?_⟩
            unfold ReadP
            rw [HM.out]
            exact ⟨rfl, below_drewN HW6.out _⟩
end Go.Proofs.YtgcckfaljfkkhaaDoor.Hot
