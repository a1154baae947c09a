/- The law of what is written: it returns true for any record, and leaves all that was there. -/
import Derived.Test.YtomncfiklkhfjaaRecUnlike
namespace Go.Proofs.Ytomncfiklkhfjaa.Rec
open Go.RowKit Mem Crc _root_.Go.Proofs.Ytomncfiklkhfjaa.Frame
attribute [local go_sem] S8_size S8_toList R.size_ R.c0 R.c1 R.c34 R.c35 R.c36 R.c37 R.c38 R.g0 R.g1 R.g34 R.g35 R.g36 R.g37 R.g38
theorem RetW.one {w : World} {r : Option (List UInt8)} {e : Ending} {w' : World} (h : RetW w r e w') : Below w.heap.size w w' ∧ ∃ A N c, e = .returned (.tuple #[.slice A N c, .int .i64 (codeD r)]) ∧ Own w' w.heap.size 5 A N c (r.getD []) := by
  obtain ⟨hb, ⟨rfl, rfl⟩ | ⟨A, N, c, bs, rfl, rfl, ho⟩⟩ := h
  · exact ⟨hb, none, 0, 0, rfl, Own.nil_ _ _ _⟩
  · exact ⟨hb, A, N, c, rfl, ho⟩
theorem str_of {w : World} {A : Option Addr} {bs : List UInt8} {n cap : Nat} (hb : BAt w A bs) (hn : bs.length = n) : (convert 28 9 (.slice A n cap)).run Try.prog w = .ok (.string (S8 bs)) w :=
  run_toString (P := Try.prog) (w := w) (ts := 9) byteTy strTy cap hb hn
set_option maxRecDepth 100000 in
set_option maxHeartbeats 8000000 in
theorem lawWrites (r : R) (C : Option Addr) (cap : Nat) (w : World) (hid : r.id.length ≤ 140737488355000) (hcl : r.copies.length ≤ 140737488355328) (hC : CAt w C r.copies) :
    Calls Try.prog 3 #[.agg (r.cells C cap).toArray] w fun e w' => e = .returned (.bool true) ∧ Below w.heap.size w w' := by
  have HID := Lib.hid hid
  have HCL := Lib.hid hcl
  have HC := Lib.hid hC
  have HG := Lib.hid (Blk.new w 26 (r.cells C cap).toArray)
  clear hid hcl hC
  go_enter Try.func3, Try.ntmps3
  go_wp2_with fail
  refine (shown_any _).mono ?_
  rintro e w1 ⟨rfl, hb1⟩
  have HW1 := Lib.hid (below_al hb1)
  have HG1 := Lib.hid (HG.out.below_ hb1)
  have HC1 := Lib.hid (HC.out.below (below_al hb1))
  clear hb1
  go_wp2_with
    (refine wpList_load_mid rfl 26 (.tmp 1) rfl w.heap.size 0 rfl (r.cells C cap) _ (rangeRec HG1.out) Try.underlying26 rfl (by rw [R.size_]; kernel_rfl) ?_
     go_wp2_with fail)
  refine (encode_any r C cap w1 HID.out HCL.out HC1.out).mono ?_
  intro e w2 hr
  obtain ⟨hb2, A2, N2, c2, rfl, ho2⟩ := hr.one
  have HW2 := Lib.hid (HW1.out.trans (hb2.mono HW1.out.size))
  have HG2 := Lib.hid (HG1.out.below_ hb2)
  have HC2 := Lib.hid (HC1.out.below hb2)
  have HO2 := Lib.hid ho2
  clear hr hb2 ho2
  go_wp2_with
    (refine wpList_load_mid rfl 26 (.tmp 1) rfl w.heap.size 0 rfl (r.cells C cap) _ (rangeRec HG2.out) Try.underlying26 rfl (by rw [R.size_]; kernel_rfl) ?_
     go_wp2_with fail)
  refine (refEncode_any r C cap w2 HID.out HCL.out HC2.out).mono ?_
  intro e w3 hr
  obtain ⟨hb3, A3, N3, c3, rfl, ho3⟩ := hr.one
  have HW3 := Lib.hid (HW2.out.trans (hb3.mono HW2.out.size))
  have HG3 := Lib.hid (HG2.out.below_ hb3)
  have HO3 := Lib.hid ho3
  have HP3 := Lib.hid (HO2.out.below hb3)
  clear hr hb3 ho3
  obtain ⟨h0, h1, _, _, _, _, _⟩ := RAt.of_blk HG3.out
  go_wp2_with
    (refine wpList_load_mid rfl 23 (.tmp 30) rfl w.heap.size 2 rfl (r.root.map B8) _ (rootRange HG3.out) arrTy rfl (by rw [hash_size]; simp [r.h32]) ?_
     go_wp2_with fail)
  refine (entry_any r.id r.len r.root r.h32 w3 HID.out).mono ?_
  intro e w4 hr
  obtain ⟨hb4, A4, N4, c4, rfl, ho4⟩ := hr.one
  have HW4 := Lib.hid (HW3.out.trans (hb4.mono HW3.out.size))
  have HG4 := Lib.hid (HG3.out.below_ hb4)
  have HO4 := Lib.hid (HO3.out.below hb4)
  have HP4 := Lib.hid (HP3.out.below hb4)
  have HQ4 := Lib.hid ho4
  clear hr hb4 ho4 h0 h1
  obtain ⟨h0, h1, _, _, _, _, _⟩ := RAt.of_blk HG4.out
  go_wp2_with
    (refine wpList_load_mid rfl 23 (.tmp 40) rfl w.heap.size 2 rfl (r.root.map B8) _ (rootRange HG4.out) arrTy rfl (by rw [hash_size]; simp [r.h32]) ?_
     go_wp2_with fail)
  refine (refEntry_any r.id r.len r.root r.h32 w4 HID.out).mono ?_
  intro e w5 hr
  obtain ⟨hb5, A5, N5, c5, rfl, ho5⟩ := hr.one
  have HW5 := Lib.hid (HW4.out.trans (hb5.mono HW4.out.size))
  have HG5 := Lib.hid (HG4.out.below_ hb5)
  have e1 := str_of (cap := c2) (HP4.out.below hb5).bat HP4.out.len
  have e2 := str_of (cap := c3) (HO4.out.below hb5).bat HO4.out.len
  have e3 := str_of (cap := c4) (HQ4.out.below hb5).bat HQ4.out.len
  have e4 := str_of (cap := c5) ho5.bat ho5.len
  clear hr hb5 ho5 h0 h1
  obtain ⟨h0, _, _, _, _, _, _⟩ := RAt.of_blk HG5.out
  go_wp2_with fail
  refine (name_any r.id (Nat.le_trans HID.out (by decide)) _).mono ?_
  rintro e w6 ⟨rfl, rfl⟩
  go_wp2_with fail
  refine (refName_any r.id (Nat.le_trans HID.out (by decide)) _).mono ?_
  rintro e w7 ⟨rfl, rfl⟩
  go_wp2_with fail
  go_ret
  exact ⟨rfl, HW5.out⟩
end Go.Proofs.Ytomncfiklkhfjaa.Rec
