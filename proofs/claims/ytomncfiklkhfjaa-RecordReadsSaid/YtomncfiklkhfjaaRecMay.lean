/- The walks of 'may': what a record may be. -/
import Derived.Test.YtomncfiklkhfjaaRecName
import Derived.Deep.MidRow
namespace Go.Proofs.Ytomncfiklkhfjaa.Rec
open Go.RowKit Mem Crc _root_.Go.Proofs.Ytomncfiklkhfjaa.Frame
attribute [local go_sem] R.size_ R.c0 R.c1 R.c34 R.c35 R.c36 R.c37 R.c38 R.g0 R.g1 R.g34 R.g35 R.g36 R.g37 R.g38
theorem within_any (n most : Int) (w : World) : Calls Try.prog 59 #[.int .i64 n, .int .i64 most] w fun e w' => e = .returned (.bool (within n most)) ∧ w' = w := by
  go_enter Try.func59, Try.ntmps59
  go_wp2
  all_goals
    go_ret
    refine ⟨congrArg (fun b => Ending.returned (Value.bool b)) ?_, rfl⟩
    unfold within
    rw [Bool.eq_iff_iff]
    simp
    omega
theorem flag_any (h : Bool) (b : UInt8) (w : World) : Calls Try.prog 56 #[.bool h, .int .u8 (V8 b)] w fun e w' => e = .returned (.int .u8 (V8 (if h then b else 0))) ∧ w' = w := by
  cases h
  all_goals
    go_enter Try.func56, Try.ntmps56
    go_wp2
    go_ret
    exact ⟨rfl, rfl⟩
/-- What holds at the head of a round of 'may'. -/
def MayRel (w : World) (g : Nat) (r : R) (C : Option Addr) (cap : Nat) (i : Value) (wr : World) : Prop :=
  ∃ k : Nat, k ≤ r.copies.length ∧ i = .int .i64 k ∧ Below w.heap.size w wr ∧ Blk wr g 26 (r.cells C cap).toArray ∧ ∀ j c, j < k → r.copies[j]? = some c → c.may = true
set_option maxRecDepth 100000 in
set_option maxHeartbeats 400000 in
theorem may_any (r : R) (C : Option Addr) (cap : Nat) (w : World) (hid : r.id.length ≤ 140737488355328) (hcl : r.copies.length ≤ 140737488355328) (hC : CAt w C r.copies) :
    Calls Try.prog 54 #[.agg (r.cells C cap).toArray] w fun e w' => e = .returned (.bool r.may) ∧ Below w.heap.size w w' := by
  have HC := Lib.hid hC
  have HID := Lib.hid hid
  clear hC hid
  go_enter Try.func54, Try.ntmps54
  go_wp2
  go_loopw [8] (fun i wr => MayRel w w.heap.size r C cap i wr) (fun i _ => r.copies.length - (intOf i).toNat)
  case atStart => exact ⟨0, Nat.zero_le _, rfl, below_al' _, Blk.new _ _ _, fun j c h => absurd h (by omega)⟩
  case round =>
    obtain ⟨k, hk, rfl, hW, hG, hj⟩ := hrel
    have HW := Lib.hid hW
    have HG := Lib.hid hG
    have HJ := Lib.hid hj
    have HSZ := Lib.hid hG.lt
    clear hW hG hj
    by_cases hlt : k < r.copies.length
    · obtain ⟨c, hc⟩ : ∃ c, r.copies[k]? = some c := ⟨_, List.getElem?_eq_getElem hlt⟩
      obtain ⟨ad, rfl, h0, h1, h2, h3⟩ := (HC.out.below HW.out) k c hc
      have HCK := Lib.hid hc
      clear hc
      have hm : c.may = (within c.dev 11 && (within c.pos 4095 && within c.len 255)) := rfl
      cases hd : within c.dev 11 <;> cases hp : within c.pos 4095 <;> cases hl : within c.len 255
      all_goals
        rw [hd, hp, hl] at hm
        have HM := Lib.hid hm
        clear hm
        go_wp2_with
          (go_at_call 59
           refine (within_any _ _ _).mono ?_
           rintro e w' ⟨rfl, rfl⟩)
        first
          | (go_ret
             rw [may_bad HCK.out HM.out]
             exact ⟨rfl, HW.out.alloc HW.out.size _⟩)
          | (go_roundw
             case rel =>
               refine ⟨k + 1, hlt, by go_num, HW.out.alloc HW.out.size _, HG.out.alloc _, fun j c' hj hc' => ?_⟩
               rcases Nat.lt_or_ge j k with h | h
               · exact HJ.out j c' h hc'
               · obtain rfl : j = k := by omega
                 rw [HCK.out] at hc'
                 injection hc' with hc'
                 rw [← hc']
                 exact HM.out
             case measure => simp [intOf]; omega)
    · obtain rfl : k = r.copies.length := by omega
      obtain ⟨h0, h1, h34, h35, h36, h37, h38⟩ := RAt.of_blk HG.out
      have HALL := Lib.hid (may_all fun j c hj hc => HJ.out j c hj hc)
      cases hn : nameM r.id <;> cases hl : within r.len 512 <;> cases hi : within r.idx 2147483647 <;> cases he : within r.exp 1099511627776
      all_goals
        go_wp2_with (first
          | (go_at_call 59
             refine (within_any _ _ _).mono ?_
             rintro e w' ⟨rfl, rfl⟩)
          | (go_at_call 18
             refine (name_any _ HID.out _).mono ?_
             rintro e w' ⟨rfl, rfl⟩))
        go_ret
        rw [HALL.out, hn, hl, hi, he]
        exact ⟨by simp <;> omega, HW.out⟩
set_option maxRecDepth 100000 in
set_option maxHeartbeats 4000000 in
theorem refMay_any (r : R) (C : Option Addr) (cap : Nat) (w : World) (hid : r.id.length ≤ 140737488355328) (hcl : r.copies.length ≤ 140737488355328) (hC : CAt w C r.copies) :
    Calls Try.prog 57 #[.agg (r.cells C cap).toArray] w fun e w' => e = .returned (.bool r.may) ∧ Below w.heap.size w w' := by
  have HC := Lib.hid hC
  have HID := Lib.hid hid
  clear hC hid
  have hg := RAt.of_blk (C := C) (cap := cap) (r := r) (Blk.new w 26 (r.cells C cap).toArray)
  have HG0 := Lib.hid hg
  clear hg
  rcases head_cases r with h | h | h | h | h | h | h | h | h
  case inr.inr.inr.inr.inr.inr.inr.inr =>
    obtain ⟨hn, ha, hb, hc, hd, he, hf, hk⟩ := h
    have HEAD := Lib.hid ((head_iff r).2 ⟨hn, by omega, by omega, by omega, by omega, by omega, by omega, by omega⟩)
    go_enter Try.func57, Try.ntmps57
    go_wp2_with
      (go_at_call 19
       refine (refName_any _ HID.out _).mono ?_
       rintro e w' ⟨rfl, rfl⟩)
    go_loopw [3] (fun i wr => MayRel w w.heap.size r C cap i wr) (fun i _ => r.copies.length - (intOf i).toNat)
    case atStart => exact ⟨0, Nat.zero_le _, rfl, below_al' _, Blk.new _ _ _, fun j c h => absurd h (by omega)⟩
    case round =>
      obtain ⟨k, hk, rfl, hW, hG, hj⟩ := hrel
      have HW := Lib.hid hW
      have HG := Lib.hid hG
      have HJ := Lib.hid hj
      have HSZ := Lib.hid hG.lt
      clear hW hG hj
      by_cases hlt : k < r.copies.length
      · obtain ⟨c, hc⟩ : ∃ c, r.copies[k]? = some c := ⟨_, List.getElem?_eq_getElem hlt⟩
        obtain ⟨ad, rfl, h0, h1, h2, h3⟩ := (HC.out.below HW.out) k c hc
        obtain ⟨_, _, _, _, _, _, h38⟩ := RAt.of_blk HG.out
        have HCK := Lib.hid hc
        clear hc
        rcases cpy_cases c with h | h | h | h | h | h | h
        case inr.inr.inr.inr.inr.inr =>
          have HM : Hid (c.may = true) := Lib.hid ((cpy_iff c).2 (by omega))
          go_wp2
          go_roundw
          case rel =>
            refine ⟨k + 1, hlt, by go_num, HW.out.alloc HW.out.size _, HG.out.alloc _, fun j c' hj hc' => ?_⟩
            rcases Nat.lt_or_ge j k with h | h
            · exact HJ.out j c' h hc'
            · obtain rfl : j = k := by omega
              rw [HCK.out] at hc'
              injection hc' with hc'
              rw [← hc']
              exact HM.out
          case measure => simp [intOf]; omega
        all_goals
          have HM : Hid (c.may = false) := Lib.hid (cpy_false (by omega))
          go_wp2
          go_ret
          rw [may_bad HCK.out HM.out]
          exact ⟨rfl, HW.out.alloc HW.out.size _⟩
      · obtain rfl : k = r.copies.length := by omega
        obtain ⟨_, _, _, _, _, _, h38⟩ := RAt.of_blk HG.out
        have HT : Hid (r.may = true) := Lib.hid ((may_all fun j c hj hc => HJ.out j c hj hc).trans HEAD.out)
        go_wp2
        go_ret
        rw [HT.out]
        exact ⟨rfl, HW.out⟩
  all_goals
    have HF : Hid (r.may = false) := Lib.hid (head_false fun hh => by
      obtain ⟨g1, g2, g3, g4, g5, g6, g7, g8⟩ := hh
      rw [g1] at h
      simp only [Bool.true_eq_false, true_and] at h
      try omega)
    go_enter Try.func57, Try.ntmps57
    go_wp2_with
      (go_at_call 19
       refine (refName_any _ HID.out _).mono ?_
       rintro e w' ⟨rfl, rfl⟩)
    go_ret
    exact ⟨by rw [HF.out]; rfl, below_al' _⟩
end Go.Proofs.Ytomncfiklkhfjaa.Rec
