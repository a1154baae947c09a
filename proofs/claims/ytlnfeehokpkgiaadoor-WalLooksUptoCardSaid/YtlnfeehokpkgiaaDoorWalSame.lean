/- 'Same' of two rows of transactions; the law's 'sum'. -/
import Derived.Test.YtlnfeehokpkgiaaDoorWalRef
namespace Go.Proofs.YtlnfeehokpkgiaaDoor.Wal
open Go Go.RowKit Mem Pl Disk Crc _root_.Go.Proofs.YtlnfeehokpkgiaaDoor.Frame
theorem str_beq (as_ bs : List UInt8) : ((⟨as_.toArray⟩ : ByteArray).toList == (⟨bs.toArray⟩ : ByteArray).toList) = decide (as_ = bs) := by
  rw [← beq_toListBytes]
  show (as_.toArray == bs.toArray) = _
  rw [Bool.eq_iff_iff, beq_iff_eq, decide_eq_true_iff]
  simp
theorem al_strTy : Tryd.prog.underlying 9 = some .string := Tryd.underlying9
/-- Transactions in a row. -/
def TxRows (w : World) (A : Option Addr) (txs : List Tx) : Prop := ∀ (i : Nat) (tx : Tx), txs[i]? = some tx → ∃ ad B cb, A = some ad ∧ w.cell? (ad.add i) = some (.slice B tx.length cb) ∧ RowsAt w B tx
theorem TxRows.below {W w : World} {A : Option Addr} {l : List Tx} (h : TxRows W A l) (hb : Below W.heap.size W w) : TxRows w A l := fun i b hi => by
  obtain ⟨ad, B, c, e, hc, hB⟩ := h i b hi
  exact ⟨ad, B, c, e, (hb.cell (cell_lt hc)).trans hc, hB.below hb⟩
theorem TxsAt.rows {w : World} {J : Nat → Prop} {txs : List Tx} {v : Value} (x : TxsAt w J txs v) : ∃ A c, v = .slice A txs.length c ∧ TxRows w A txs := by
  obtain ⟨vs, h1, h2⟩ := x
  obtain ⟨A, c, rfl⟩ := h1.shape
  refine ⟨A, c, rfl, fun i b hb => ?_⟩
  obtain ⟨v, hv, hby⟩ := h2 i b hb
  obtain ⟨B, cb, rfl, hbat⟩ := hby.rows
  obtain ⟨g, rfl, hc⟩ := h1.cell i _ hv
  refine ⟨_, B, cb, rfl, ?_, hbat⟩
  rw [add_off]
  simpa using hc
theorem take_same {α : Type} {as_ bs : List α} {i : Nat} {x y : α} (h : as_.take i = bs.take i) (hx : as_[i]? = some x) (hy : bs[i]? = some y) : as_.take (i + 1) = bs.take (i + 1) ↔ x = y := by
  rw [List.take_add_one, List.take_add_one, h, hx, hy]
  simp
def sumM (txs : List Tx) : Nat := (txs.map costM).sum
set_option maxRecDepth 100000 in
set_option maxHeartbeats 4000000 in
theorem same_any (w : World) (A B : Option Addr) (n c m d : Nat) (as_ bs : List Tx) (ha : TxRows w A as_) (hb : TxRows w B bs) (hla : as_.length = n) (hlb : bs.length = m) (hn : n ≤ 1000000000) (hin : ∀ tx ∈ as_, tx.length ≤ 1000000000) :
    Calls Tryd.prog 18 #[.slice A n c, .slice B m d] w fun e w' => e = .returned (.bool (decide (as_ = bs))) ∧ Below w.heap.size w w' := by
  have HA := Lib.hid ha
  have HB := Lib.hid hb
  have HL : Hid (as_.length = n ∧ bs.length = m) := Lib.hid ⟨hla, hlb⟩
  have HIN := Lib.hid hin
  clear ha hb hla hlb hin
  by_cases hnm : n = m
  · subst hnm
    go_enter Tryd.func18, Tryd.ntmps18
    go_wp2_with fail
    go_loopw [5] (fun iv wr => ∃ i : Nat, i ≤ n ∧ iv = .int .i64 (i : Int) ∧ as_.take i = bs.take i ∧ Below w.heap.size w wr) (fun iv _ => n - (intOf iv).toNat)
    case atStart => exact ⟨0, by omega, rfl, rfl, Below.refl _ _⟩
    case round =>
      obtain ⟨i, hi, rfl, htk, hbw⟩ := hrel
      have HTK := Lib.hid htk
      have HBW := Lib.hid hbw
      clear htk hbw
      by_cases hlt : i < n
      · have hiI : (i : Int) < (n : Int) := by omega
        obtain ⟨x, hx⟩ : ∃ b, as_[i]? = some b := ⟨_, List.getElem?_eq_getElem (by rw [HL.out.1]; exact hlt)⟩
        obtain ⟨y, hy⟩ : ∃ b, bs[i]? = some b := ⟨_, List.getElem?_eq_getElem (by rw [HL.out.2]; exact hlt)⟩
        obtain ⟨ad, X, cx, hAe, hcx, hrx⟩ := (HA.out.below HBW.out) i x hx
        obtain ⟨bd, Y, cy, hBe, hcy, hry⟩ := (HB.out.below HBW.out) i y hy
        subst hAe hBe
        have HXY := Lib.hid (⟨hx, hy⟩ : _ ∧ _)
        have hxl : x.length ≤ 1000000000 := HIN.out x (List.mem_of_getElem? hx)
        have HRX := Lib.hid hrx
        have HRY := Lib.hid hry
        have HNX := Lib.hid (take_same HTK.out hx hy)
        have HCX := Lib.hid hcx
        have HCY := Lib.hid hcy
        obtain ⟨lx, hlx⟩ : ∃ k, x.length = k := ⟨_, rfl⟩
        obtain ⟨ly, hly⟩ : ∃ k, y.length = k := ⟨_, rfl⟩
        rw [hlx] at hcx hxl HCX
        rw [hly] at hcy HCY
        have HLXY := Lib.hid (⟨hlx, hly⟩ : _ ∧ _)
        clear hx hy hrx hry hlx hly
        by_cases hxy : lx = ly
        · obtain rfl : lx = ly := hxy
          have hbn : ((lx : Int) != (lx : Int)) = false := by simp
          go_wp2_with fail
          refine Ord.region_ord [] [0, 1, 2, 3, 4, 5, 6, 7, 8, 9, 10] (by kernel_rfl) (by kernel_rfl) (by kernel_rfl) (by kernel_rfl) (Ord.ord_all [_, _, _, _, _, _, _, _, _, _, _] rfl (by kernel_rfl) ?_)
          go_wp2_with fail
          refine Ord.nx_end ?_
          go_wp2_with fail
          go_loopw [6] (fun kv wi => ∃ k : Nat, k ≤ lx ∧ kv = .int .i64 (k : Int) ∧ x.take k = y.take k ∧ Below w.heap.size w wi ∧ wi.cell? (ad.add i) = some (.slice X lx cx) ∧ wi.cell? (bd.add i) = some (.slice Y lx cy) ∧ RowsAt wi X x ∧ RowsAt wi Y y) (fun kv _ => lx - (intOf kv).toNat)
          case atStart => exact ⟨0, by omega, rfl, rfl, HBW.out.trans (below_drewN (Below.refl w.heap.size _) 1), HCX.out, HCY.out, HRX.out.drew_, HRY.out.drew_⟩
          case round =>
            obtain ⟨k, hk, rfl, htk, hbi, hcx2, hcy2, hrx2, hry2⟩ := hrel
            have HTK2 := Lib.hid htk
            have HBI := Lib.hid hbi
            have HCX2 := Lib.hid hcx2
            have HCY2 := Lib.hid hcy2
            have HRX2 := Lib.hid hrx2
            have HRY2 := Lib.hid hry2
            clear htk hbi hrx2 hry2 hcx hcy
            by_cases hkl : k < lx
            · have hkI : (k : Int) < (lx : Int) := by omega
              have hkN : decide (k < lx) = true := decide_eq_true hkl
              obtain ⟨bx, hbx⟩ : ∃ b, x[k]? = some b := ⟨_, List.getElem?_eq_getElem (by rw [HLXY.out.1]; exact hkl)⟩
              obtain ⟨b2, hb2⟩ : ∃ b, y[k]? = some b := ⟨_, List.getElem?_eq_getElem (by rw [HLXY.out.2]; omega)⟩
              obtain ⟨xd, XB, cxb, hXe, hcxb, hbatx⟩ := HRX2.out k bx hbx
              obtain ⟨yd, YB, cyb, hYe, hcyb, hbaty⟩ := HRY2.out k b2 hb2
              subst hXe hYe
              have HNK := Lib.hid (take_same HTK2.out hbx hb2)
              have HK2 := Lib.hid (⟨hbx, hb2⟩ : _ ∧ _)
              have HBX := Lib.hid hbatx
              have HBY := Lib.hid hbaty
              clear hbx hb2 hbatx hbaty
              go_upto_region 11 with fail
              go_cut [54] from 38 to 54 (fun v wc => v = .bool (decide (¬ bx = b2)) ∧ wc = wr.drew)
              case first =>
                have k3 := run_toString (P := Tryd.prog) (w := wr.drew) (ts := 9) Pl.byteTy al_strTy cxb (HBX.out.below (below_drewN (Below.refl wr.heap.size _) 1)) rfl
                have k4 := run_toString (P := Tryd.prog) (w := wr.drew) (ts := 9) Pl.byteTy al_strTy cyb (HBY.out.below (below_drewN (Below.refl wr.heap.size _) 1)) rfl
                refine Ord.tb_start [7, 15] (by kernel_rfl) (Ord.tb_pre [0, 1, 2, 3, 4, 5, 6, 8, 9, 10, 11, 12, 13, 14] [_, _, _, _, _, _, _, _, _, _, _, _, _, _] (k := 3) (by kernel_rfl) rfl rfl (by kernel_rfl) ?_)
                go_wp2_with fail
                by_cases hT : bx = b2
                · subst hT
                  generalize (⟨bx.toArray⟩ : ByteArray) = S at k3 k4
                  refine Ord.nx_tb (Ord.tb_fork (i := 7) (j := 15) (k := 2) (by kernel_rfl) rfl rfl ?_ ?_)
                  · go_wp2_with fail
                    refine Ord.nx_tb2 (w0 := wr.drew) (Below.refl _ _) (Ord.tb_ords [15, 16] (by kernel_rfl) rfl (by kernel_rfl) (Ord.ord_one rfl ?_))
                    go_wp2_with fail
                    refine Ord.nx_and (Below.refl _ _) (Ord.ord_all [_] rfl (by kernel_rfl) ?_)
                    go_wp2_with fail
                    refine Ord.nx_end ?_
                    go_wp2_with fail
                    go_meet
                    exact ⟨by simp, rfl⟩
                  · go_wp2_with fail
                    refine Ord.nx_tb2 (w0 := wr.drew) (Below.refl _ _) (Ord.tb_ords [7, 16] (by kernel_rfl) rfl (by kernel_rfl) (Ord.ord_one rfl ?_))
                    go_wp2_with fail
                    refine Ord.nx_and (Below.refl _ _) (Ord.ord_all [_] rfl (by kernel_rfl) ?_)
                    go_wp2_with fail
                    refine Ord.nx_end ?_
                    go_wp2_with fail
                    go_meet
                    exact ⟨by simp, rfl⟩
                · have hsm : ((⟨bx.toArray⟩ : ByteArray).toList == (⟨b2.toArray⟩ : ByteArray).toList) = false := by rw [str_beq]; exact decide_eq_false hT
                  generalize (⟨bx.toArray⟩ : ByteArray) = S1 at k3 hsm
                  generalize (⟨b2.toArray⟩ : ByteArray) = S2 at k4 hsm
                  have hsm2 : (S1.toList != S2.toList) = true := by simp [bne, hsm]
                  refine Ord.nx_tb (Ord.tb_fork (i := 7) (j := 15) (k := 2) (by kernel_rfl) rfl rfl ?_ ?_)
                  · go_wp2_with fail
                    refine Ord.nx_tb2 (w0 := wr.drew) (Below.refl _ _) (Ord.tb_ords [15, 16] (by kernel_rfl) rfl (by kernel_rfl) (Ord.ord_one rfl ?_))
                    go_wp2_with fail
                    refine Ord.nx_and (Below.refl _ _) (Ord.ord_all [_] rfl (by kernel_rfl) ?_)
                    go_wp2_with fail
                    refine Ord.nx_end ?_
                    go_wp2_with fail
                    go_meet
                    exact ⟨by simp [hT], rfl⟩
                  · go_wp2_with fail
                    refine Ord.nx_tb2 (w0 := wr.drew) (Below.refl _ _) (Ord.tb_ords [7, 16] (by kernel_rfl) rfl (by kernel_rfl) (Ord.ord_one rfl ?_))
                    go_wp2_with fail
                    refine Ord.nx_and (Below.refl _ _) (Ord.ord_all [_] rfl (by kernel_rfl) ?_)
                    go_wp2_with fail
                    refine Ord.nx_end ?_
                    go_wp2_with fail
                    go_meet
                    exact ⟨by simp [hT], rfl⟩
              case rest =>
                obtain ⟨rfl, hwc⟩ := hcut
                subst hwc
                by_cases hT : bx = b2
                · have hdf : decide (¬ bx = b2) = false := by simp [hT]
                  rw [hdf]
                  go_wp2_with fail
                  go_roundw
                  case rel => exact ⟨k + 1, by omega, by simp, HNK.out.2 hT, HBI.out.trans (below_drewN (Below.refl w.heap.size _) 1), HCX2.out, HCY2.out, HRX2.out.drew_, HRY2.out.drew_⟩
                  case measure => simp [intOf]; omega
                · have hdf : decide (¬ bx = b2) = true := by simp [hT]
                  rw [hdf]
                  go_wp2_with fail
                  go_ret
                  refine ⟨?_, HBI.out.trans (below_drewN (Below.refl w.heap.size _) 1)⟩
                  have hne : ¬ as_ = bs := fun e => hT (by
                    have h1 := HXY.out
                    rw [e, h1.2] at h1
                    have h2 := Option.some.inj h1.1
                    have h3 := HK2.out
                    rw [← h2, h3.2] at h3
                    exact (Option.some.inj h3.1).symm)
                  simp [hne]
            · obtain rfl : lx = k := by omega
              go_wp2_with fail
              go_roundw
              case rel =>
                refine ⟨i + 1, by omega, by simp, HNX.out.2 ?_, HBI.out⟩
                have h1 := HTK2.out
                have e1 : x.take lx = x := by rw [← HLXY.out.1]; simp
                have e2 : y.take lx = y := by rw [← HLXY.out.2]; simp
                rw [e1, e2] at h1
                exact h1
              case measure => simp [intOf]; omega
        · have hbn : ((lx : Int) != (ly : Int)) = true := by simp; omega
          go_wp2_with fail
          refine Ord.region_ord [] [0, 1, 2, 3, 4, 5, 6, 7, 8, 9, 10] (by kernel_rfl) (by kernel_rfl) (by kernel_rfl) (by kernel_rfl) (Ord.ord_all [_, _, _, _, _, _, _, _, _, _, _] rfl (by kernel_rfl) ?_)
          go_wp2_with fail
          refine Ord.nx_end ?_
          go_wp2_with fail
          go_ret
          refine ⟨?_, HBW.out.trans (below_drewN (Below.refl w.heap.size _) 1)⟩
          have hne : ¬ as_ = bs := fun e => hxy (by
            have h1 := HXY.out
            rw [e, h1.2] at h1
            have := Option.some.inj h1.1
            rw [← HLXY.out.1, ← HLXY.out.2, this])
          simp [hne]
      · obtain rfl : n = i := by omega
        go_wp2_with fail
        go_ret
        refine ⟨?_, HBW.out⟩
        have h1 := HTK.out
        have e1 : as_.take n = as_ := by rw [← HL.out.1]; simp
        have e2 : bs.take n = bs := by rw [← HL.out.2]; simp
        rw [e1, e2] at h1
        simp [h1]
  · have hbn : ((n : Int) != (m : Int)) = true := by simp; omega
    go_enter Tryd.func18, Tryd.ntmps18
    go_wp2_with fail
    go_ret
    refine ⟨?_, Below.refl _ _⟩
    have hne : ¬ as_ = bs := fun e => hnm (by rw [← HL.out.1, ← HL.out.2, e])
    simp [hne]
end Go.Proofs.YtlnfeehokpkgiaaDoor.Wal
