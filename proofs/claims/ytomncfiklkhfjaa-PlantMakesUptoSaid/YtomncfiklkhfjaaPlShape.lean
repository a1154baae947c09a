/- The shape of a plant, told. -/
import Derived.Test.YtomncfiklkhfjaaPlClone
namespace Go.Proofs.Ytomncfiklkhfjaa.Pl
open Go Go.RowKit Mem
theorem natV_one (l : List Nat) : ∀ u ∈ l.map natV, u.oneCell' = true := by
  intro u hu
  obtain ⟨x, _, rfl⟩ := List.mem_map.1 hu
  rfl
/-- The call gives back a shape of its own. -/
def RetS (w : World) (p : PM) (e : Ending) (w' : World) : Prop :=
  ∃ D T, e = .returned (.agg #[D, T]) ∧ Vec w' (fun g => w.heap.size ≤ g ∧ g < w'.heap.size) 3 1 D p.disks.length (p.disks.map natV) ∧ Vec w' (fun g => w.heap.size ≤ g ∧ g < w'.heap.size) 3 1 T p.tapes.length (p.tapes.map natV) ∧ Below w.heap.size w w'
set_option maxHeartbeats 2000000 in
theorem shape_any {w : World} {F : Nat → Prop} {a : Nat} {p : PM} (h : PlantAt w F a p) (hok : p.Ok) : Calls Try.prog 28 #[.pointer (some ⟨a, 0, none⟩)] w (RetS w p) := by
  obtain ⟨D, T, V, W, hp⟩ := h
  obtain ⟨A1, k1, rfl⟩ := hp.disks.shape
  obtain ⟨A2, k2, rfl⟩ := hp.tapes.shape
  have h0 := hp.c0
  have h1 := hp.c1
  have HB := Lib.hid hp
  have hn := hok.shape
  have hlt := hp.blk.lt
  have hn12 := hok.n12
  clear hp
  go_enter Try.func28, Try.ntmps28
  go_wp2
  refine Ord.region_ord [5] [0, 1, 2, 3, 4, 6, 7, 8, 9, 10, 5, 11, 12, 13] (by kernel_rfl) (by kernel_rfl) (by kernel_rfl) (by kernel_rfl) (Ord.ord_run [0, 1, 2, 3, 4, 6, 7, 8, 9, 10] [_, _, _, _, _, _, _, _, _, _] rfl (by kernel_rfl) ?_)
  go_wp2_with fail
  refine Ord.nx_ord (Ord.ord_one rfl ?_)
  go_wp2_with fail
  have hd := HB.out.disks.below (w' := (w.alloc (.cells #[.slice none 0 0, .slice none 0 0] 44)).drew) (below_al' _).drew
  refine (cloneInts_any hd (natV_one _) (by omega)).mono ?_
  rintro e w2 ⟨D', rfl, hv2, hb2⟩
  obtain ⟨A3, k3, rfl⟩ := hv2.shape
  have HV2 := Lib.hid hv2
  have HB2 := Lib.hid hb2
  have HW2 : Hid (Below w.heap.size w w2) := Lib.hid ((below_al' _).drew.trans (hb2.mono (by show w.heap.size ≤ (w.alloc _).heap.size; simp)))
  have HG2 : Hid (Blk w2 w.heap.size 44 #[.slice none 0 0, .slice none 0 0]) := Lib.hid ((Blk.drew (Blk.new w _ _)).below_ hb2)
  have HG2lt := HG2.out.lt
  clear hv2 hb2 hd
  go_wp2_with fail
  refine Ord.nx_and HB2.out (Ord.ord_all [_, _, _] rfl (by kernel_rfl) ?_)
  go_wp2_with fail
  have ht := HB.out.tapes.below HW2.out
  refine (cloneInts_any ht (natV_one _) (by omega)).mono ?_
  rintro e w3 ⟨T', rfl, hv3, hb3⟩
  obtain ⟨A4, k4, rfl⟩ := hv3.shape
  have HV3 := Lib.hid hv3
  have HB3 := Lib.hid hb3
  have HW3 : Hid (Below w.heap.size w w3) := Lib.hid (HW2.out.trans (hb3.mono HW2.out.size))
  have hg3 := HG2.out.below_ hb3
  have c0 := hg3.cell 0
  have c1 := hg3.cell 1
  have z0 := hg3.frozen 0
  have z1 := hg3.frozen 1
  have HG3 := Lib.hid hg3
  simp at c0 c1
  clear hv3 hb3 ht hg3 HG2
  go_wp2_with fail
  refine Ord.nx_end ?_
  go_wp2_with fail
  have hg5 := (HG3.out.set_ 0 (.slice A3 p.disks.length k3)).set_ 1 (.slice A4 p.tapes.length k4)
  have r0 := hg5.cell 0
  have r1 := hg5.cell 1
  simp at r0 r1
  have hsz2 := HW2.out.size
  have hsz3 := HB3.out.size
  have hlt2 : w.heap.size < w2.heap.size := HG2lt
  have hne : ∀ g, w2.heap.size ≤ g → g ≠ w.heap.size := fun g hg e => by omega
  clear c0 c1 z0 z1
  refine bodyPost_ret (v := .agg #[.slice A3 p.disks.length k3, .slice A4 p.tapes.length k4]) (by simp [results, Try.results28, go_sem, r0, r1]) rfl ⟨_, _, rfl, ?_, ?_, ?_⟩
  · refine (((HV2.out.below HB3.out).far (p := ⟨w.heap.size, 0, none⟩) HG3.out (by decide) _).far (p := ⟨w.heap.size, 1, none⟩) (HG3.out.set_ 0 _) (by decide) _).mono fun g hg h => ⟨?_, hg⟩
    exact Nat.le_trans (by show w.heap.size ≤ (w.alloc _).heap.size; simp) h.1
  · refine ((HV3.out.far (p := ⟨w.heap.size, 0, none⟩) HG3.out (by decide) _).far (p := ⟨w.heap.size, 1, none⟩) (HG3.out.set_ 0 _) (by decide) _).mono fun g hg h => ⟨?_, hg⟩
    exact Nat.le_trans hsz2 h.1
  · exact (HW3.out.setCell (Nat.le_refl _) _).setCell (Nat.le_refl _) _
end Go.Proofs.Ytomncfiklkhfjaa.Pl
