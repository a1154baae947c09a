/- Frames and numbers in plain terms: lists of bytes, the highest first. No program. -/
import Derived.Test.YtomncfiklkhfjaaCrcMath
namespace Go.Proofs.Ytomncfiklkhfjaa.Frame
open Go Mem Crc
theorem snoc_ind {α : Type} {P : List α → Prop} (h0 : P []) (h1 : ∀ l c, P l → P (l ++ [c])) (l : List α) : P l := by
  have h : ∀ r : List α, P r.reverse := by
    intro r
    induction r with
    | nil => exact h0
    | cons c r ih => rw [List.reverse_cons]; exact h1 _ _ ih
  have := h l.reverse
  rwa [List.reverse_reverse] at this
/-- The number of some bytes, the highest first. -/
def be (l : List UInt8) : Nat := l.foldl (fun n c => n * 256 + c.toNat) 0
/-- The lowest k bytes of a number, the highest first. -/
def beB (n : Nat) : Nat → List UInt8
  | 0 => []
  | k + 1 => UInt8.ofNat (n / 256 ^ k) :: beB n k
theorem beB_length (n k : Nat) : (beB n k).length = k := by
  induction k with
  | zero => rfl
  | succ k ih => simp [beB, ih]
theorem beB_get (n k j : Nat) (h : j < k) : (beB n k).getD j 0 = UInt8.ofNat (n / 256 ^ (k - 1 - j)) := by
  induction k generalizing j with
  | zero => omega
  | succ k ih =>
    cases j with
    | zero => simp [beB]
    | succ j =>
      simp only [beB, List.getD_cons_succ]
      rw [ih j (by omega)]
      congr 3
      omega
theorem beB_drop (n a b : Nat) : (beB n (a + b)).drop a = beB n b := by
  induction a with
  | zero => simp
  | succ a ih => rw [Nat.add_right_comm]; simpa [beB] using ih
theorem be_snoc (l : List UInt8) (c : UInt8) : be (l ++ [c]) = be l * 256 + c.toNat := by simp [be]
theorem be_lt (l : List UInt8) : be l < 256 ^ l.length := by
  refine snoc_ind (P := fun l => be l < 256 ^ l.length) (by simp [be]) (fun l c ih => ?_) l
  · rw [be_snoc, List.length_append, List.length_singleton, Nat.pow_succ]
    have := c.toNat_lt
    omega
theorem be_beB (n k : Nat) : be (beB n k) = n % 256 ^ k := by
  have gen : ∀ k a, (beB n k).foldl (fun n c => n * 256 + c.toNat) a = a * 256 ^ k + n % 256 ^ k := by
    intro k
    induction k with
    | zero => intro a; simp [beB, Nat.mod_one]
    | succ k ih =>
      intro a
      simp only [beB, List.foldl_cons]
      rw [ih]
      have h1 : (UInt8.ofNat (n / 256 ^ k)).toNat = n / 256 ^ k % 256 := by simp [UInt8.toNat_ofNat']
      rw [h1, Nat.pow_succ, Nat.mod_mul, Nat.add_mul]
      have e1 : a * 256 * 256 ^ k = a * (256 ^ k * 256) := by rw [Nat.mul_assoc, Nat.mul_comm 256]
      rw [e1, Nat.mul_comm (n / 256 ^ k % 256)]
      omega
  have := gen k 0
  simpa [be] using this
theorem beB_be (l : List UInt8) : beB (be l) l.length = l := by
  refine snoc_ind (P := fun l => beB (be l) l.length = l) rfl (fun l c ih => ?_) l
  · have hc := c.toNat_lt
    have key : ∀ (m k : Nat), beB (m * 256 + c.toNat) (k + 1) = beB m k ++ [c] := by
      intro m k
      induction k with
      | zero =>
        simp only [beB, Nat.pow_zero, Nat.div_one, List.nil_append]
        congr 1
        apply UInt8.toNat_inj.1
        simp [UInt8.toNat_ofNat']
      | succ k ihk =>
        rw [show beB (m * 256 + c.toNat) (k + 1 + 1) = UInt8.ofNat ((m * 256 + c.toNat) / 256 ^ (k + 1)) :: beB (m * 256 + c.toNat) (k + 1) from rfl, ihk]
        rw [show beB m (k + 1) = UInt8.ofNat (m / 256 ^ k) :: beB m k from rfl, List.cons_append]
        congr 2
        rw [Nat.pow_succ, Nat.mul_comm (256 ^ k), ← Nat.div_div_eq_div_mul]
        congr 1
        omega
    rw [be_snoc, List.length_append, List.length_singleton, key, ih]
theorem beB_mod (n k : Nat) : beB (n % 256 ^ k) k = beB n k := by
  have h := beB_be (beB n k)
  rw [beB_length, be_beB] at h
  exact h
theorem or_be (n : Nat) (c : UInt8) (h : n < 72057594037927936) : bits .or .u64 ((n : Int) * 256) (V8 c) = ((n * 256 + c.toNat : Nat) : Int) := by
  have hc := c.toNat_lt
  unfold V8
  rw [show ((n : Int) * 256) = ((n * 256 : Nat) : Int) from by omega, u64_or_nat _ _ (by omega) (by omega)]
  congr 1
  exact nat_join 8 (n * 256) c.toNat (by omega) hc
theorem V8_ofNat (m : Nat) : V8 (UInt8.ofNat m) = ((m % 256 : Nat) : Int) := by unfold V8; simp [UInt8.toNat_ofNat']
theorem shr_byte (n k : Nat) (hk : k < 8) : (n : Int) / 2 ^ (56 - 8 * k) % 256 = V8 (UInt8.ofNat (n / 256 ^ (7 - k))) := by
  rw [V8_ofNat, show (256 : Nat) = 2 ^ 8 from rfl, ← Nat.pow_mul, show 8 * (7 - k) = 56 - 8 * k by omega]
  generalize 56 - 8 * k = m
  simp
theorem shr_byte' (n j : Nat) : (n : Int) / 2 ^ (8 * j) % 256 = V8 (UInt8.ofNat (n / 256 ^ j)) := by
  rw [V8_ofNat, show (256 : Nat) = 2 ^ 8 from rfl, ← Nat.pow_mul]
  generalize 8 * j = m
  simp
def okSize (size : Int) : Bool := decide (1 ≤ size ∧ size ≤ 8)
/-- P4.3. -/
def number (b : List UInt8) (n : Nat) (size : Int) : List UInt8 := if okSize size then b ++ beB n size.toNat else b
/-- P4.1. -/
def head (kind : UInt8) (b : List UInt8) : List UInt8 := beB b.length 4 ++ [kind] ++ b
def pack (kind : UInt8) (b : List UInt8) : List UInt8 := head kind b ++ beB (more 0#32 (head kind b)).toNat 4
theorem head_length (kind : UInt8) (b : List UInt8) : (head kind b).length = b.length + 5 := by simp [head, beB_length]; omega
theorem pack_length (kind : UInt8) (b : List UInt8) : (pack kind b).length = b.length + 9 := by simp [pack, beB_length, head_length]
/-- P4.4: the number, what is behind it, the error. -/
def takeM (b : List UInt8) (size : Int) : Nat × List UInt8 × Int :=
  if okSize size then (if (b.length : Int) < size then (0, [], 40) else (be (b.take size.toNat), b.drop size.toNat, 0)) else (0, [], 1)
/-- P4.2: kind, payload, what is behind. -/
def unpackM (b : List UInt8) : Option (UInt8 × List UInt8 × List UInt8) :=
  if b.length < 9 then none
  else if b.length - 9 < be (b.take 4) then none
  else if be ((b.drop (5 + be (b.take 4))).take 4) ≠ (more 0#32 (b.take (5 + be (b.take 4)))).toNat then none
  else some (b.getD 4 0, (b.take (5 + be (b.take 4))).drop 5, b.drop (9 + be (b.take 4)))
end Go.Proofs.Ytomncfiklkhfjaa.Frame
