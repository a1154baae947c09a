/- The journal's 'Fits'. -/
import Derived.Test.YtlnfeehokpkgiaaDoorWalTrunc
namespace Go.Proofs.YtlnfeehokpkgiaaDoor.Wal
open Go Go.RowKit Mem Pl Disk Crc _root_.Go.Proofs.YtlnfeehokpkgiaaDoor.Frame
def fitsM (N nx : Nat) (tx : Tx) : Bool := !longM tx && decide (partsM (encM tx) ≤ N - nx)
theorem RowsAt.drew_ {w : World} {A : Option Addr} {l : Tx} (h : RowsAt w A l) : RowsAt w.drew A l := h.below (below_drewN (Below.refl w.heap.size _) 1)
set_option maxRecDepth 100000 in
set_option maxHeartbeats 4000000 in
theorem fits_on {w : World} {g a dev N : Nat} {m : WM} {A : Option Addr} {n c : Nat} {tx : Tx} (hw : WalB w g a dev N m) (h : RowsAt w A tx) (hl : tx.length = n) (hn : n ≤ 1000000000) (ht : totM tx ≤ 1000000000000000) (hnx : m.next ≤ N) (hN : N ≤ 1000000) :
    Calls Tryd.prog 39 #[.pointer (some ⟨g, 0, none⟩), .slice A n c] w fun e w' => e = .returned (.bool (fitsM N m.next tx)) ∧ Below w.heap.size w w' := by
  have HLG := Lib.hid (long_any w.drew A n c tx h.drew_ hl hn ht)
  obtain ⟨c0, c1, c2, c3, c4, c5, c6⟩ := hw.cells
  obtain ⟨r, hr⟩ : ∃ r, N - m.next = r := ⟨_, rfl⟩
  have hwr : IntKind.i64.wrap ((N : Int) - (m.next : Int)) = (r : Int) := by
    rw [show (N : Int) - (m.next : Int) = (r : Int) by omega]
    exact IntWalk.i64_in _ (by omega)
  unfold fitsM
  rw [hr]
  cases hlm : longM tx with
  | true =>
    rw [hlm] at HLG
    clear hw h hl hn ht hnx hN hlm c0 c1 c2 c3 c4 c5 c6 hr hwr
    go_enter Tryd.func39, Tryd.ntmps39
    go_wp2_with fail
    refine Ord.region_ordM [] [4, 5, 6, 7, 8, 9, 10, 11, 12, 13, 14, 15, 16] [0, 1, 2, 3, 4, 5, 6, 7, 8, 9, 10, 11, 12, 13, 14, 15, 16, 17, 18] (by kernel_rfl) (by kernel_rfl) (by kernel_rfl) (by kernel_rfl) (Ord.ord_run [0, 1, 2, 3] [_, _, _, _] rfl (by kernel_rfl) ?_)
    go_wp2_with fail
    refine HLG.out.mono ?_
    rintro e _ ⟨rfl, rfl⟩
    go_wp2_with fail
    refine Ord.nx_ord (ord_skips [4, 5, 6, 7, 8, 9, 10, 11, 12, 13, 14, 15, 16] [_, _, _, _, _, _, _, _, _, _, _, _, _] rfl (by kernel_rfl) (by kernel_rfl) (by kernel_rfl) ?_)
    refine Ord.ord_all [_, _] rfl (by kernel_rfl) ?_
    go_wp2_with fail
    refine Ord.nx_end ?_
    go_wp2_with fail
    go_ret
    exact ⟨rfl, below_drewN (Below.refl _ _) 1⟩
  | false =>
    rw [hlm] at HLG
    have HEN := Lib.hid (encode_any w.drew A n c tx h.drew_ hl hlm)
    have h24 := partsM_long hlm
    have hel : (encM tx).length ≤ 2000 := by
      have h1 := encM_len tx
      have h2 := hlm
      unfold longM at h2
      simp at h2
      omega
    obtain ⟨p, hp⟩ : ∃ p, partsM (encM tx) = p := ⟨_, rfl⟩
    have HP := Lib.hid hp
    have HEL := Lib.hid hel
    rw [hp] at h24 ⊢
    clear hw h hl hn ht hnx hN hlm c0 c1 c3 c4 c6 hr hp hel
    have hpr : decide ((p : Int) ≤ (r : Int)) = decide (p ≤ r) := by simp
    go_enter Tryd.func39, Tryd.ntmps39
    go_wp2_with fail
    refine Ord.region_ordM [5, 6] [15] [0, 1, 2, 3, 4, 7, 8, 9, 10, 11, 12, 13, 14, 15, 5, 6, 16, 17, 18] (by kernel_rfl) (by kernel_rfl) (by kernel_rfl) (by kernel_rfl) (Ord.ord_run [0, 1, 2, 3, 4, 7, 8, 9, 10, 11, 12, 13, 14] [_, _, _, _, _, _, _, _, _, _, _, _, _] rfl (by kernel_rfl) ?_)
    go_wp2_with fail
    refine HLG.out.mono ?_
    rintro e _ ⟨rfl, rfl⟩
    go_wp2_with fail
    refine Ord.nx_ord (Ord.ord_pure (.int .i64 (r : Int)) rfl (by kernel_rfl) (by rfl) (fun w' => by first | (go_simp; done) | (go_simp; exact hwr)) ?_)
    simp only [Act.put, List.setIfInBounds_toArray]
    refine Ord.ord_oneM rfl (by kernel_rfl) ?_
    go_wp2_with fail
    refine HEN.out.mono ?_
    rintro e w2 ⟨A2, n2, c2, rfl, ho2, hb2⟩
    have HPT := Lib.hid (parts_any w2 A2 n2 c2 (encM tx) ho2.len (by rw [← ho2.len]; have := HEL.out; omega))
    rw [HP.out] at HPT
    have HB2 := Lib.hid hb2
    clear ho2 hb2 HEN
    go_wp2_with fail
    refine Ord.nx_and HB2.out ?_
    refine Ord.ord_oneM rfl (by kernel_rfl) ?_
    go_wp2_with fail
    refine HPT.out.mono ?_
    rintro e _ ⟨rfl, rfl⟩
    go_wp2_with fail
    refine Ord.nx_and (Below.refl _ _) ?_
    refine Ord.ord_all [_, _, _] rfl (by kernel_rfl) ?_
    go_wp2_with fail
    refine Ord.nx_end ?_
    go_wp2_with fail
    go_ret
    exact ⟨by simp, (below_drewN (Below.refl w.heap.size w) 1).trans HB2.out⟩
end Go.Proofs.YtlnfeehokpkgiaaDoor.Wal
