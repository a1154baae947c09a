/- The walk of the reference's 'put': a number behind bytes of the caller's own. -/
import Derived.Test.YtomncfiklkhfjaaRecMath
import Derived.Test.YtomncfiklkhfjaaFrameNum
namespace Go.Proofs.Ytomncfiklkhfjaa.Rec
open Go.RowKit Mem Crc _root_.Go.Proofs.Ytomncfiklkhfjaa.Frame
/-- A slice of the caller's own has been lengthened: its own block may have turned, or it lies in a new one; no other block that was there has turned. -/
def Ext (w : World) (A : Option Addr) (w' : World) (A' : Option Addr) : Prop :=
  w.grownBy w' (A.map (·.block)) ∧ (A' = A ∨ ∃ g, A' = some ⟨g, 0, none⟩ ∧ w.heap.size ≤ g)
theorem Ext.refl (w : World) (A : Option Addr) : Ext w A w A := ⟨World.grownBy.refl w _, .inl rfl⟩
theorem Ext.trans {w w1 w2 : World} {A A1 A2 : Option Addr} (h : Ext w A w1 A1) (k : Ext w1 A1 w2 A2) : Ext w A w2 A2 := by
  obtain ⟨hg, ha⟩ := h
  obtain ⟨kg, ka⟩ := k
  refine ⟨⟨kg.os.trans hg.os, kg.tape.trans hg.tape, kg.output.trans hg.output, Nat.le_trans hg.size kg.size, fun i hi hne => (kg.block i (Nat.lt_of_lt_of_le hi hg.size) ?_).trans (hg.block i hi hne)⟩, ?_⟩
  · rcases ha with rfl | ⟨g, rfl, hge⟩
    · exact hne
    · intro e
      injection e with e
      simp at e
      omega
  · rcases ka with rfl | ⟨g, rfl, hge⟩
    · exact ha
    · exact .inr ⟨g, rfl, Nat.le_trans hg.size hge⟩
theorem Ext.below {w w1 w2 : World} {A A1 : Option Addr} (h : Ext w A w1 A1) (hb : Below w1.heap.size w1 w2) : Ext w A w2 A1 :=
  h.trans ⟨grown_of_below hb _, .inl rfl⟩
theorem Ext.step {w w1 w2 : World} {A A1 A2 : Option Addr} {n c : Nat} (h : Ext w A w1 A1) (hg : w1.grownBy w2 (Value.slice A1 n c).ownBlock) (hA : A2 = A1 ∨ A2 = some ⟨w1.heap.size, 0, none⟩) : Ext w A w2 A2 := by
  refine h.trans ⟨?_, hA.imp id fun e => ⟨_, e, Nat.le_refl _⟩⟩
  cases A1 <;> exact hg
/-- The call gives back the caller's own slice, lengthened. -/
def RetO (w : World) (base : Nat) (A : Option Addr) (bs : List UInt8) (e : Ending) (w' : World) : Prop :=
  ∃ A' N c, e = .returned (.slice A' N c) ∧ Own w' base 5 A' N c bs ∧ Below base w w' ∧ Ext w A w' A'
/-- What holds at the head of a round of 'put'. -/
def PutRel (w : World) (base : Nat) (A : Option Addr) (bs : List UInt8) (n size : Nat) (bv iv : Value) (wr : World) : Prop :=
  ∃ (k : Nat) (A1 : Option Addr) (N c : Nat), k ≤ size ∧ iv = .int .i64 ((size : Int) - 1 - (k : Int)) ∧ bv = .slice A1 N c ∧ Own wr base 5 A1 N c (bs ++ (beB n size).take k) ∧ Below base w wr ∧ Ext w A wr A1
set_option maxHeartbeats 400000 in
theorem put_any (base : Nat) (A : Option Addr) (bs : List UInt8) (m cap : Nat) (n s : Nat) (w : World) (ho : Own w base 5 A m cap bs) (hbase : base ≤ w.heap.size) (hl : m ≤ 140737488355320) (hn : n < 9223372036854775808) (h1 : 1 ≤ s) (h8 : s ≤ 8) :
    Calls Try.prog 58 #[.slice A m cap, .int .i64 n, .int .i64 s] w (RetO w base A (bs ++ beB n s)) := by
  have HO := Lib.hid ho
  have HM := Lib.hid ho.len
  clear ho
  go_enter Try.func58, Try.ntmps58
  go_wp2
  go_loopw [0, 7] (fun b i wr => PutRel w base A bs n s b i wr) (fun _ i _ => (intOf i + 1).toNat)
  case atStart => exact ⟨0, A, m, cap, Nat.zero_le _, by simp, rfl, by simpa using HO.out, Below.refl _ _, Ext.refl _ _⟩
  case round =>
    obtain ⟨k, A1, N, c, hk, rfl, rfl, ho, hw, hx⟩ := hrel
    have HO1 := Lib.hid ho
    have HW := Lib.hid hw
    have HX := Lib.hid hx
    have hN : N = m + k := by
      have := ho.len
      simp [HM.out, beB_length] at this
      omega
    subst hN
    clear ho hw hx
    by_cases hlt : k < s
    · have hi : (s : Int) - 1 - (k : Int) = ((s - 1 - k : Nat) : Int) := by omega
      have hstep : (beB n s).take (k + 1) = (beB n s).take k ++ [UInt8.ofNat (n / 256 ^ (s - 1 - k))] := by
        rw [List.take_succ_eq_append_getElem (by rw [beB_length]; exact hlt)]
        congr 2
        have := beB_get n s k hlt
        simpa [List.getD, beB_length, hlt] using this
      have HS := Lib.hid hstep
      rw [hi]
      clear hstep
      have hj8 : s - 1 - k < 8 := by omega
      have hgoal : ((s - 1 - k : Nat) : Int) - 1 = (s : Int) - 1 - ((k + 1 : Nat) : Int) := by omega
      have HG := Lib.hid hgoal
      have hk8 : s - 1 - k + 1 ≤ 8 := by omega
      clear hi hgoal
      have hb8 := shr_byte' n (s - 1 - k)
      generalize hjq : s - 1 - k = j at *
      have HJ := Lib.hid hjq
      have Hb8 := Lib.hid hb8
      clear hjq hb8
      go_wp2_with
        (at_builtin
         refine wpList_append_bytes rfl (.tmp 14) (.tmp 20) _ rfl base _ byteTy A1 (m + k) c _ rfl (HO1.out.alloc _) _ 1 1 [UInt8.ofNat (n / 256 ^ j)] rfl
           (BAt.new _ _ _ _ (by rw [Hb8.out]; rfl)) rfl (m + k + 1) rfl (by omega) (by have := HW.out.size; simp; omega) ?_
         intro A3 c3 w3 ho3 hg3 hb3 hA3
         have HO3 := Lib.hid ho3
         have HW3 := Lib.hid ((HW.out.alloc (Nat.le_trans hbase HW.out.size) _).trans hb3)
         have HX3 := Lib.hid ((HX.out.below (below_al' _)).step hg3 hA3)
         clear ho3 hg3 hb3 hA3)
      go_roundw
      case rel => exact ⟨k + 1, A3, _, c3, hlt, by rw [HG.out], rfl, by rw [HS.out, ← List.append_assoc]; exact HO3.out, HW3.out, HX3.out⟩
      case measure => simp [intOf]
    · obtain rfl : k = s := by omega
      have hneg : (k : Int) - 1 - (k : Int) = -1 := by omega
      rw [hneg]
      go_wp2
      go_ret
      have ho := HO1.out
      rw [List.take_of_length_le (by rw [beB_length]; exact Nat.le_refl _)] at ho
      exact ⟨_, _, _, rfl, ho, HW.out, HX.out⟩
set_option maxHeartbeats 400000 in
theorem get_any (A : Option Addr) (bs : List UInt8) (m cap : Nat) (s : Nat) (w : World) (hl : bs.length = m) (hs : s ≤ m) (h6 : s ≤ 6) (hb : BAt w A bs) :
    Calls Try.prog 61 #[.slice A m cap, .int .i64 s] w fun e w' => e = .returned (.int .i64 (be (bs.take s) : Nat)) ∧ w' = w := by
  have HB := Lib.hid hb
  have HN := Lib.hid hl
  clear hb hl
  go_enter Try.func61, Try.ntmps61
  go_wp2
  go_loop [5, 6] (fun r i => ∃ k : Nat, k ≤ s ∧ i = .int .i64 k ∧ r = .int .i64 (be (bs.take k) : Nat)) (fun _ i => s - (intOf i).toNat)
  case atStart => exact ⟨0, Nat.zero_le _, rfl, rfl⟩
  case round =>
    obtain ⟨k, hk, rfl, rfl⟩ := hrel
    by_cases hlt : k < s
    · have hkl : k < bs.length := by have := HN.out; omega
      have hst : be (bs.take (k + 1)) = be (bs.take k) * 256 + bs[k].toNat := by rw [List.take_succ_eq_append_getElem hkl, be_snoc]
      have hlt1 := be_lt (bs.take k)
      rw [List.length_take_of_le (by omega)] at hlt1
      have h7 : 256 ^ k ≤ 256 ^ 5 := Nat.pow_le_pow_right (by decide) (by omega)
      generalize hr : be (bs.take k) = r at *
      have H := Lib.hid hst
      clear hst hr
      obtain ⟨ad, rfl, hc⟩ := HB.out (by omega)
      have hcell : w.cell? (ad.add k) = some (.int .u8 (V8 bs[k])) := by have := hc k hkl; simpa [List.getD, hkl] using this
      clear hc
      have hr7 : r < 1099511627776 := by omega
      clear h7 hlt1
      have hv := V8_lt bs[k]
      have hkm : k < m := by omega
      go_wp2
      go_round
      case rel => exact ⟨k + 1, hlt, by go_num, by rw [H.out]; simp [V8]⟩
      case measure => simp [intOf]; omega
    · obtain rfl : k = s := by omega
      clear HB
      go_wp2
      go_ret
      exact ⟨rfl, rfl⟩
end Go.Proofs.Ytomncfiklkhfjaa.Rec
