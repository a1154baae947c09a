/- The walks of the names of records: each function once. -/
import Derived.Test.YtomncfiklkhfjaaRecMath
import Derived.Test.YtomncfiklkhfjaaFrameNum
namespace Go.Proofs.Ytomncfiklkhfjaa.Rec
open Go.RowKit Mem Crc _root_.Go.Proofs.Ytomncfiklkhfjaa.Frame
attribute [local go_sem] S8_size S8_list S8_at
/-- What holds at the head of a round of 'Name'. -/
def NameRel (w : World) (bs : List UInt8) (i : Value) (wr : World) : Prop :=
  wr = w ∧ ∃ k : Nat, k ≤ bs.length ∧ i = .int .i64 k ∧ ∀ j, j < k → okc (bs.getD j 0) = true
set_option maxHeartbeats 400000 in
theorem name_any (bs : List UInt8) (hl : bs.length ≤ 140737488355328) (w : World) : Calls Try.prog 18 #[.string (S8 bs)] w fun e w' => e = .returned (.bool (nameM bs)) ∧ w' = w := by
  go_enter Try.func18, Try.ntmps18
  go_wp2
  go_loopw [7] (fun i wr => NameRel w bs i wr) (fun i _ => bs.length - (intOf i).toNat)
  case atStart => exact ⟨rfl, 0, Nat.zero_le _, rfl, fun j h => absurd h (by omega)⟩
  case round =>
    obtain ⟨rfl, k, hk, rfl, hj⟩ := hrel
    have HJ := Lib.hid hj
    clear hj
    by_cases hlt : k < bs.length
    · go_wp2
      all_goals first
        | (go_roundw
           case rel =>
             have hfin : okc (bs.getD k 0) = true := by
               have hch : chr bs k = V8 (bs.getD k 0) := rfl
               try simp only [Bool.not_eq_true', Bool.not_eq_false', decide_eq_true_eq, decide_eq_false_iff_not, beq_eq_false_iff_ne, beq_iff_eq, bne_eq_false_iff_eq, bne_iff_ne, ne_eq] at *
               exact decide_eq_true (by omega)
             refine ⟨rfl, k + 1, hlt, by go_num, fun j hj => ?_⟩
             rcases Nat.lt_or_ge j k with h | h
             · exact HJ.out j h
             · obtain rfl : j = k := by omega
               exact hfin
           case measure => simp [intOf]; omega)
        | (go_ret
           have hfin : okc (bs.getD k 0) = false := by
             have hch : chr bs k = V8 (bs.getD k 0) := rfl
             try simp only [Bool.not_eq_true', Bool.not_eq_false', decide_eq_true_eq, decide_eq_false_iff_not, beq_eq_false_iff_ne, beq_iff_eq, bne_eq_false_iff_eq, bne_iff_ne, ne_eq] at *
             exact decide_eq_false (by omega)
           refine ⟨?_, rfl⟩
           rw [name_bad hlt hfin]
           rfl)
    · obtain rfl : k = bs.length := by omega
      go_wp2
      all_goals
        go_ret
        refine ⟨congrArg (fun b => Ending.returned (Value.bool b)) ?_, rfl⟩
        rw [name_all HJ.out, Bool.eq_iff_iff]
        simp
        omega
set_option maxHeartbeats 400000 in
theorem refName_any (bs : List UInt8) (hl : bs.length ≤ 140737488355328) (w : World) : Calls Try.prog 19 #[.string (S8 bs)] w fun e w' => e = .returned (.bool (nameM bs)) ∧ w' = w := by
  have hshort : ¬ (1 ≤ bs.length ∧ bs.length ≤ 16) → nameM bs = false := fun h => by unfold nameM; rw [decide_eq_false h, Bool.false_and]
  have HS := Lib.hid hshort
  clear hshort
  by_cases h1 : 1 ≤ bs.length ∧ bs.length ≤ 16
  · obtain ⟨ha, hb⟩ := h1
    have ha' : ¬ (bs.length : Int) < 1 := by omega
    have hb' : ¬ (16 : Int) < (bs.length : Int) := by omega
    go_enter Try.func19, Try.ntmps19
    go_wp2
    go_loopw [3] (fun i wr => NameRel w bs i wr) (fun i _ => bs.length - (intOf i).toNat)
    case atStart => exact ⟨rfl, 0, Nat.zero_le _, rfl, fun j h => absurd h (by omega)⟩
    case round =>
      obtain ⟨rfl, k, hk, rfl, hj⟩ := hrel
      have HJ := Lib.hid hj
      clear hj
      by_cases hlt : k < bs.length
      · go_wp2
        all_goals first
          | (go_roundw
             case rel =>
               have hfin : okc (bs.getD k 0) = true := by
                 have hch : chr bs k = V8 (bs.getD k 0) := rfl
                 try simp only [Bool.not_eq_true', Bool.not_eq_false', decide_eq_true_eq, decide_eq_false_iff_not, beq_eq_false_iff_ne, beq_iff_eq, bne_eq_false_iff_eq, bne_iff_ne, ne_eq] at *
                 exact decide_eq_true (by omega)
               refine ⟨rfl, k + 1, hlt, by go_num, fun j hj => ?_⟩
               rcases Nat.lt_or_ge j k with h | h
               · exact HJ.out j h
               · obtain rfl : j = k := by omega
                 exact hfin
             case measure => simp [intOf]; omega)
          | (go_ret
             have hfin : okc (bs.getD k 0) = false := by
               have hch : chr bs k = V8 (bs.getD k 0) := rfl
               try simp only [Bool.not_eq_true', Bool.not_eq_false', decide_eq_true_eq, decide_eq_false_iff_not, beq_eq_false_iff_ne, beq_iff_eq, bne_eq_false_iff_eq, bne_iff_ne, ne_eq] at *
               exact decide_eq_false (by omega)
             refine ⟨?_, rfl⟩
             rw [name_bad hlt hfin]
             rfl)
      · obtain rfl : k = bs.length := by omega
        go_wp2
        go_ret
        refine ⟨?_, rfl⟩
        rw [name_all HJ.out, decide_eq_true (show 1 ≤ bs.length ∧ bs.length ≤ 16 from ⟨ha, hb⟩)]
        rfl
  · have hf := HS.out h1
    have hcase : bs.length < 1 ∨ ¬ bs.length < 1 ∧ 16 < bs.length := by omega
    clear h1 HS
    have HF := Lib.hid hf
    clear hf
    rcases hcase with h | ⟨h, h'⟩
    all_goals
      go_enter Try.func19, Try.ntmps19
      go_wp2
      go_ret
      refine ⟨?_, rfl⟩
      rw [HF.out]
      rfl
end Go.Proofs.Ytomncfiklkhfjaa.Rec
