/- The walk of 'Decode'. -/
import Derived.Test.YtomncfiklkhfjaaRecDecode
namespace Go.Proofs.Ytomncfiklkhfjaa.Rec
open Go.RowKit Mem Crc _root_.Go.Proofs.Ytomncfiklkhfjaa.Frame
/-- What 'Decode' gives back. -/
def RetD (w : World) (o : Option R) (e : Ending) (w' : World) : Prop :=
  Below w.heap.size w w' ∧ ((o = none ∧ e = .returned (.tuple #[.agg (zeroR.cells none 0).toArray, .int .i64 110])) ∨
    ∃ (r : R) (C : Option Addr) (cap : Nat), o = some r ∧ e = .returned (.tuple #[.agg (r.cells C cap).toArray, .int .i64 0]) ∧ OwnG w' w.heap.size 82 4 C r.copies.length cap (cpyCells r.copies))
theorem below_set {w w1 w2 : World} {g : Nat} (h : Below w.heap.size w w1) (hg : w1.grownBy w2 (some g)) (hle : w.heap.size ≤ g) : Below w.heap.size w w2 :=
  h.grown hg h.size (fun k hk => by injection hk with hk; omega)
set_option maxRecDepth 100000 in
set_option maxHeartbeats 1000000 in
theorem decode_any (A : Option Addr) (bs : List UInt8) (m cap : Nat) (w : World) (hb : BAt w A bs) (hm : bs.length = m) (hc : m ≤ cap) (hcap : m ≤ 140737488355328) :
    Calls Try.prog 20 #[.slice A m cap] w (RetD w (decodeM bs)) := by
  have HB := Lib.hid hb
  have HM := Lib.hid hm
  have HG := Lib.hid (Blk.new w 26 (zeroR.cells none 0).toArray)
  clear hb hm
  go_enter Try.func20, Try.ntmps20
  go_wp2_with fail
  refine (decodeR_any A bs m cap _ (HB.out.below (below_al' _)) HM.out hc hcap).mono ?_
  rintro e w1 ⟨hb1, ⟨hr, r, C, capC, rfl⟩ | ⟨r, C, capC, hr, rfl, ho⟩⟩
  · have HR := Lib.hid hr
    have HW1 := Lib.hid (below_al hb1)
    have HG1 := Lib.hid (HG.out.below_ hb1)
    clear hr hb1
    have hl1 := HG1.out.lt
    go_wp2_with (first
      | (refine wpList_store_whole rfl 26 (.tmp 4) (.tmp 9) rfl w1.heap.size 26 (zeroR.cells none 0) (r.cells C capC) rfl rfl (Blk.new w1 _ _) (by rw [R.size_, R.size_]) (by rw [R.size_]; kernel_rfl) (rec_one _ _ _) ?_
         intro w2 hb2 hg2 hz2
         have HW2 := Lib.hid (below_set (HW1.out.alloc HW1.out.size _) hg2 (Nat.le_of_lt hl1))
         have HG2 := Lib.hid ((HG1.out.alloc _).grown hg2 (by simp; omega))
         clear hb2 hg2 hz2)
      | (refine wpList_store_whole rfl 26 (.tmp 2) (.tmp 13) rfl w.heap.size 26 (zeroR.cells none 0) (zeroR.cells none 0) rfl rfl HG2.out rfl (by rw [R.size_]; kernel_rfl) (rec_one _ _ _) ?_
         intro w3 hb3 hg3 hz3
         have HW3 := Lib.hid (below_set HW2.out hg3 (Nat.le_refl _))
         have HG3 := Lib.hid hb3
         clear hb3 hg3 hz3))
    have hl := load_rec HG3.out
    refine bodyPost_ret (v := .tuple #[.agg (zeroR.cells none 0).toArray, .int .i64 110]) ?_ rfl ⟨HW3.out, .inl ⟨HR.out, rfl⟩⟩
    simp [results, Try.results20, asAddr, hl, Sem.run_bind]
  · have HR := Lib.hid hr
    have HW1 := Lib.hid (below_al hb1)
    have HG1 := Lib.hid (HG.out.below_ hb1)
    have HO1 := Lib.hid ho
    clear hr hb1 ho
    have hl1 := HG1.out.lt
    go_wp2_with (first
      | (refine wpList_store_whole rfl 26 (.tmp 4) (.tmp 9) rfl w1.heap.size 26 (zeroR.cells none 0) (r.cells C capC) rfl rfl (Blk.new w1 _ _) (by rw [R.size_, R.size_]) (by rw [R.size_]; kernel_rfl) (rec_one _ _ _) ?_
         intro w2 hb2 hg2 hz2
         have HW2 := Lib.hid (below_set (HW1.out.alloc HW1.out.size _) hg2 (Nat.le_of_lt hl1))
         have HG2 := Lib.hid ((HG1.out.alloc _).grown hg2 (by simp; omega))
         have HX2 := Lib.hid hb2
         have HO2 := Lib.hid ((HO1.out.alloc _).kept hg2 (.inr (by
           rcases HO1.out.form with ⟨h, _, _⟩ | ⟨g, h, _, hg⟩
           · rw [h]; simp
           · rw [h]; simp; omega)))
         clear hb2 hg2 hz2)
      | (refine wpList_load_mid rfl 26 (.tmp 4) rfl w1.heap.size 0 rfl (r.cells C capC) _ (rangeRec HX2.out) Try.underlying26 rfl (by rw [R.size_]; kernel_rfl) ?_)
      | (refine wpList_store_whole rfl 26 (.tmp 2) (.tmp 15) rfl w.heap.size 26 (zeroR.cells none 0) (r.cells C capC) rfl rfl HG2.out (by rw [R.size_, R.size_]) (by rw [R.size_]; kernel_rfl) (rec_one _ _ _) ?_
         intro w3 hb3 hg3 hz3
         have HW3 := Lib.hid (below_set HW2.out hg3 (Nat.le_refl _))
         have HG3 := Lib.hid hb3
         have HO3 := Lib.hid (HO2.out.kept hg3 (.inr (HO2.out.ne_lt (by simp))))
         clear hb3 hg3 hz3))
    have hl := load_rec HG3.out
    refine bodyPost_ret (v := .tuple #[.agg (r.cells C capC).toArray, .int .i64 0]) ?_ rfl ⟨HW3.out, .inr ⟨r, C, capC, HR.out, rfl, HO3.out.mono (by simp)⟩⟩
    simp [results, Try.results20, asAddr, hl, Sem.run_bind]
end Go.Proofs.Ytomncfiklkhfjaa.Rec
