/- The law 'WalKeeps'. -/
import Derived.Test.YtlnfeehokpkgiaaDoorWalStd
namespace Go.Proofs.YtlnfeehokpkgiaaDoor.Wal
open Go Go.RowKit Mem Pl Disk Crc _root_.Go.Proofs.YtlnfeehokpkgiaaDoor.Frame
def KpsR (W : World) (a d N m : Nat) (iv : Value) (wr : World) : Prop := ∃ i : Nat, iv = .int .i64 (i : Int) ∧ i ≤ m ∧ StdW W wr a d 0 N (2 * N + 4 + 482 * i) (2 * i) (2 + 3 * i)
/-- The cells of a call. -/
theorem OpWAt.below {W w : World} {ad : Addr} {o : OpW} (h : OpWAt W ad o) (hb : Below W.heap.size W w) : OpWAt w ad o :=
  ⟨(hb.cell (cell_lt h.c0)).trans h.c0, (hb.cell (cell_lt h.c1)).trans h.c1, (hb.cell (cell_lt h.c2)).trans h.c2, (hb.cell (cell_lt h.c3)).trans h.c3⟩
theorem StdW.more {W w : World} {a d dev N n dm Gm n' dm' Gm' : Nat} (x : StdW W w a d dev N n dm Gm) (hn : n ≤ n') (hd : dm ≤ dm') (hG : Gm ≤ Gm') : StdW W w a d dev N n' dm' Gm' := by
  obtain ⟨F, K, pm, g, v, txs, dims, H, G, E, nx, h, hk, h1, h2, hl⟩ := x
  exact ⟨F, K, pm, g, v, txs, dims, H, G, E, nx, ⟨st_more h.st hn, h.disk, h.on, h.jr, h.wal, h.desk, h.now, h.gK, h.dK, h.gF, h.dF, h.gB, h.dB⟩, hk, by omega, by omega, hl⟩
set_option maxRecDepth 100000 in
set_option maxHeartbeats 16000000 in
theorem lawWKeeps (z : Int) (hz : inI z) (AO : Option Addr) (m cap : Nat) (os : List OpW) (W : World) (ht : Tab W) (hgc : 0 < W.heap.size) (ho : OpsWAt W AO os) (hom : os.length = m) (hm : m ≤ 1048576)
    (hkW : ∀ o ∈ os, o.keep ≠ [] → ∀ ad, o.KA = some ad → ad.block < W.heap.size) :
    Calls Tryd.prog 5 #[.int .i64 z, .slice AO m cap] W fun e W' => e = .returned (.bool true) ∧ Below W.heap.size W W' := by
  have HSH := Lib.hid (shown_any W ht hgc)
  have HT := Lib.hid ht
  have HO := Lib.hid ho
  have HOM := Lib.hid (⟨hom, hkW⟩ : _ ∧ _)
  have HWH := Lib.hid (fun w : World => which_any w z 100 (by omega) (by omega) hz)
  obtain ⟨N, hN⟩ : ∃ r, 8 + whichM z 100 = r := ⟨_, rfl⟩
  have hN2 : 8 ≤ N ∧ N ≤ 107 := by have := whichM_lt z (n := 100) (by omega); omega
  have hwr : IntKind.i64.wrap (8 + (whichM z 100 : Int)) = (N : Int) := by rw [show 8 + (whichM z 100 : Int) = (N : Int) by omega]; exact IntWalk.i64_in _ (by omega)
  clear ht ho hom hN hz hkW
  go_enter Tryd.func5, Tryd.ntmps5
  go_wp2_with fail
  refine HSH.out.mono ?_
  rintro e w0 ⟨rfl, hb0⟩
  have HB0 := Lib.hid hb0
  clear hb0 HSH
  go_wp2_with fail
  refine (HWH.out _).mono ?_
  rintro e _ ⟨rfl, rfl⟩
  have HMD := Lib.hid (made_any w0 1 N (by omega) (by omega) (by omega) (by omega))
  go_wp2_with fail
  refine HMD.out.mono ?_
  rintro e w1 ⟨a, rfl, hp, hb1⟩
  have hb01 := HB0.out.trans (hb1.mono HB0.out.size)
  have HBG := Lib.hid (begun_std (W := W) (St.new hp HB0.out.size (walPM_new (by omega) (by omega) (by omega) (by omega))) (walPM_disk 1 N 0 (by omega)) hb01 (by omega) rfl rfl (by omega) (HT.out.below hb01 hgc) hgc)
  clear hp hb1 hb01 HMD
  go_wp2_with fail
  refine HBG.out.mono ?_
  rintro e w2 ⟨d, rfl, hs2⟩
  have HS2 := Lib.hid hs2
  clear hs2 HBG
  go_wp2_with fail
  go_loopw [9] (fun iv wr => KpsR W a d N m iv wr) (fun iv _ => m - (intOf iv).toNat)
  case atStart => exact ⟨0, rfl, by omega, HS2.out.more (by omega) (by omega) (by omega)⟩
  case round =>
    obtain ⟨i, rfl, hi, hs⟩ := hrel
    have HS := Lib.hid hs
    have HLW := Lib.hid hs.low
    clear hs
    by_cases hlt : i < m
    · have hiI : (i : Int) < (m : Int) := by omega
      have hiN : decide (i < m) = true := decide_eq_true hlt
      obtain ⟨o, hoi⟩ : ∃ o, os[i]? = some o := ⟨_, List.getElem?_eq_getElem (by rw [HOM.out.1]; exact hlt)⟩
      obtain ⟨ad, hA, hcells, hok⟩ := HO.out i o hoi
      obtain ⟨x0, x1, x2, x3⟩ := hcells.below HLW.out
      have HD := Lib.hid (HS.out.do_ (by omega) (by omega) (by omega) o hok (HOM.out.2 o (List.mem_of_getElem? hoi)))
      subst hA
      clear hcells hok hoi
      go_wp2_with fail
      refine HD.out.mono ?_
      rintro e w3 ⟨rfl, hs3⟩
      have HS3 := Lib.hid hs3
      clear hs3 HD x0 x1 x2 x3
      go_wp2_with fail
      go_roundw
      case rel => exact ⟨i + 1, by simp, by omega, HS3.out.more (by omega) (by omega) (by omega)⟩
      case measure => simp [intOf]; omega
    · obtain rfl : m = i := by omega
      have hiI : ¬ (m : Int) < (m : Int) := by omega
      have HFU := Lib.hid (HS.out.fuse (-1) (by omega))
      go_wp2_with fail
      refine HFU.out.mono ?_
      rintro e w3 ⟨rfl, hs3⟩
      have HBT := Lib.hid (hs3.bootNew (by omega) [0] (by simp))
      clear hs3 HFU
      go_wp2_with fail
      refine HBT.out.mono ?_
      rintro e w4 ⟨rfl, hs4⟩
      obtain ⟨A4, k4, c4, hc4⟩ := hs4.cell
      have HOP := Lib.hid (hs4.opened (by omega) (by omega) (by omega) hc4 none 0 0 [] (.inl rfl) rfl (fun h => absurd rfl h) (by omega))
      clear hs4 HBT
      go_wp2_with fail
      refine HOP.out.mono ?_
      rintro e w5 ⟨rfl, hs5⟩
      have HL5 := Lib.hid hs5.low
      clear hs5 HOP hc4
      go_wp2_with fail
      go_ret
      exact ⟨rfl, HL5.out⟩
end Go.Proofs.YtlnfeehokpkgiaaDoor.Wal
