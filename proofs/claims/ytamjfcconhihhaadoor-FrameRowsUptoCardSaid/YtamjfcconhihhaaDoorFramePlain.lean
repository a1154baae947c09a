/- What follows of frames, in plain terms: there and back; a turned byte. No program. -/
import Derived.Test.YtamjfcconhihhaaDoorFrameMath
namespace Go.Proofs.YtamjfcconhihhaaDoor.Frame
open Go Mem Crc
theorem toNat_crc_lt (x : BitVec 32) : x.toNat < 256 ^ 4 := by have := x.isLt; omega
theorem be_beB4 (n : Nat) (h : n < 4294967296) : be (beB n 4) = n := by rw [be_beB]; exact Nat.mod_eq_of_lt h
theorem pack_eq (k : UInt8) (b : List UInt8) : pack k b = beB b.length 4 ++ ([k] ++ (b ++ beB (more 0#32 (head k b)).toNat 4)) := by simp [pack, head]
/-- P4.5: unpack of pack. -/
theorem unpack_pack (k : UInt8) (b r : List UInt8) (h : b.length < 4294967296) : unpackM (pack k b ++ r) = some (k, b, r) := by
  have hl := pack_length k b
  have h4 : (pack k b ++ r).take 4 = beB b.length 4 := by
    rw [pack_eq, List.append_assoc, List.take_left' (beB_length _ _)]
  have hn : be ((pack k b ++ r).take 4) = b.length := by rw [h4, be_beB4 _ h]
  have hhd : (pack k b ++ r).take (5 + b.length) = head k b := by
    rw [pack, List.append_assoc, List.take_left' (by rw [head_length]; omega)]
  have htl : ((pack k b ++ r).drop (5 + b.length)).take 4 = beB (more 0#32 (head k b)).toNat 4 := by
    rw [pack, List.append_assoc, List.drop_left' (by rw [head_length]; omega), List.take_left' (beB_length _ _)]
  have hd9 : (pack k b ++ r).drop (9 + b.length) = r := by rw [List.drop_left' (by rw [hl]; omega)]
  have hk : (pack k b ++ r).getD 4 0 = k := by
    have : (pack k b ++ r).drop 4 = [k] ++ (b ++ beB (more 0#32 (head k b)).toNat 4) ++ r := by
      rw [pack_eq, List.append_assoc, List.drop_left' (beB_length _ _)]
    have h2 := congrArg (fun l => l.getD 0 0) this
    simp [List.getD] at h2
    simpa [List.getD] using h2
  have hp : (head k b).drop 5 = b := by
    unfold head
    rw [List.drop_left' (by simp [beB_length])]
  unfold unpackM
  rw [hn, hhd, htl, hd9, hk, hp, if_neg (by rw [List.length_append]; omega), if_neg (by rw [List.length_append]; omega), if_neg (by rw [be_beB4 _ (more 0#32 (head k b)).isLt]; simp)]
/-- P4.5: pack of what was unpacked. -/
theorem pack_unpack (bs : List UInt8) (k : UInt8) (p q : List UInt8) (h : unpackM bs = some (k, p, q)) : pack k p ++ q = bs := by
  unfold unpackM at h
  split at h
  · cases h
  · rename_i h9
    split at h
    · cases h
    · rename_i hn
      split at h
      · cases h
      · rename_i hs
        injection h with h
        injection h with h1 h2
        injection h2 with h2 h3
        obtain ⟨n, hq⟩ : ∃ n, n = be (bs.take 4) := ⟨_, rfl⟩
        rw [← hq] at h2 h3 hs hn
        subst h1 h2 h3
        have hs' : be ((bs.drop (5 + n)).take 4) = (more 0#32 (bs.take (5 + n))).toNat := by simpa using hs
        have h4 : beB n 4 = bs.take 4 := by
          have := beB_be (bs.take 4)
          rwa [List.length_take_of_le (by omega), ← hq] at this
        have hlen : ((bs.take (5 + n)).drop 5).length = n := by simp; omega
        have hhead : head (bs.getD 4 0) ((bs.take (5 + n)).drop 5) = bs.take (5 + n) := by
          unfold head
          rw [hlen, h4]
          have e5 : bs.take 4 ++ [bs.getD 4 0] = bs.take 5 := by
            rw [List.take_succ_eq_append_getElem (by omega)]
            simp [List.getD, show 4 < bs.length by omega]
          rw [e5]
          have : (bs.take (5 + n)).take 5 = bs.take 5 := by rw [List.take_take]; congr 1; omega
          rw [← this, List.take_append_drop]
        unfold pack
        rw [hhead, ← hs']
        have hcrc : beB (be ((bs.drop (5 + n)).take 4)) 4 = (bs.drop (5 + n)).take 4 := by
          have := beB_be ((bs.drop (5 + n)).take 4)
          rwa [List.length_take_of_le (by simp; omega)] at this
        rw [hcrc, List.append_assoc]
        have hd : bs.drop (9 + n) = (bs.drop (5 + n)).drop 4 := by rw [List.drop_drop]; congr 1; omega
        rw [hd, List.take_append_drop, List.take_append_drop]
/-- One byte more turned: the sum turns. -/
theorem z8_zero {c : UInt8} (h : z8 c = 0#32) : c = 0 := by
  have := congrArg BitVec.toNat h
  rw [z8_toNat] at this
  exact UInt8.toNat_inj.1 (by simpa using this)
theorem fold_turn (l : List UInt8) (r : BitVec 32) (i : Nat) (by_ : UInt8) (hi : i < l.length) :
    (l.set i (l.getD i 0 ^^^ by_)).foldl byteB r = l.foldl byteB r ^^^ rep (8 * (l.length - i)) bit1 (z8 by_) := by
  induction l generalizing r i with
  | nil => simp at hi
  | cons c l ih =>
    cases i with
    | zero =>
      simp only [List.set_cons_zero, List.getD_cons_zero, List.foldl_cons, List.length_cons, Nat.sub_zero]
      have hb : byteB r (c ^^^ by_) = byteB r c ^^^ rep 8 bit1 (z8 by_) := by
        unfold byteB
        rw [z8_xor, ← BitVec.xor_assoc, rep_xor]
      rw [hb, fold_xor, ← rep_add, Nat.mul_succ]
    | succ i =>
      simp only [List.set_cons_succ, List.getD_cons_succ, List.foldl_cons, List.length_cons]
      rw [ih _ i (by simpa using hi)]
      congr 2
      omega
theorem more_turn (l : List UInt8) (i : Nat) (by_ : UInt8) (hi : i < l.length) (h : by_ ≠ 0) : more 0#32 (l.set i (l.getD i 0 ^^^ by_)) ≠ more 0#32 l := by
  intro he
  unfold more at he
  have he' := congrArg (fun z => ~~~ z) he
  simp only [BitVec.not_not] at he'
  rw [fold_turn l _ i by_ hi] at he'
  have h2 := congrArg (fun z => l.foldl byteB (~~~ 0#32) ^^^ z) he'
  simp only [BitVec.xor_self, ← BitVec.xor_assoc, BitVec.zero_xor] at h2
  exact h (z8_zero (rep_eq_zero _ h2))
/-- P4.6: a turned byte. -/
theorem unpack_turned (k : UInt8) (b : List UInt8) (i : Nat) (by_ : UInt8) (hb : b.length < 4294967296) (hi : 4 ≤ i) (hi2 : i < b.length + 9) (h : by_ ≠ 0) :
    unpackM ((pack k b).set i ((pack k b).getD i 0 ^^^ by_)) = none := by
  have hl := pack_length k b
  have h4 : ((pack k b).set i ((pack k b).getD i 0 ^^^ by_)).take 4 = beB b.length 4 := by
    rw [List.take_set_of_le hi, pack_eq, List.take_left' (beB_length _ _)]
  have hn : be (((pack k b).set i ((pack k b).getD i 0 ^^^ by_)).take 4) = b.length := by rw [h4, be_beB4 _ hb]
  have hhl := head_length k b
  unfold unpackM
  rw [hn, if_neg (by simp [hl]), if_neg (by simp [hl]), if_pos]
  have hpk : pack k b = head k b ++ beB (more 0#32 (head k b)).toNat 4 := rfl
  by_cases hlt : i < b.length + 5
  · have e1 : ((pack k b).set i ((pack k b).getD i 0 ^^^ by_)) = (head k b).set i ((head k b).getD i 0 ^^^ by_) ++ beB (more 0#32 (head k b)).toNat 4 := by
      rw [hpk, List.set_append_left _ _ (by omega)]
      congr 2
      simp [List.getD, List.getElem?_append_left (show i < (head k b).length by omega)]
    rw [e1, List.drop_left' (by simp; omega), List.take_of_length_le (by rw [beB_length]; exact Nat.le_refl _), List.take_left' (by simp; omega), be_beB4 _ (more 0#32 (head k b)).isLt]
    intro he
    exact more_turn (head k b) i by_ (by omega) h (BitVec.eq_of_toNat_eq he.symm)
  · have e1 : ((pack k b).set i ((pack k b).getD i 0 ^^^ by_)) = head k b ++ (beB (more 0#32 (head k b)).toNat 4).set (i - (head k b).length) ((pack k b).getD i 0 ^^^ by_) := by
      rw [hpk, List.set_append_right _ _ (by omega)]
    rw [e1, List.take_left' (by omega), List.drop_left' (by omega), List.take_of_length_le (by simp [beB_length])]
    intro he
    have h5 := beB_be ((beB (more 0#32 (head k b)).toNat 4).set (i - (head k b).length) ((pack k b).getD i 0 ^^^ by_))
    rw [he] at h5
    simp only [List.length_set, beB_length] at h5
    have hj : i - (head k b).length < 4 := by omega
    have h6 := congrArg (fun l => l.getD (i - (head k b).length) 0) h5
    simp only [List.getD_eq_getElem?_getD, List.getElem?_set_self (show i - (head k b).length < (beB (more 0#32 (head k b)).toNat 4).length by rw [beB_length]; exact hj), Option.getD_some] at h6
    have h7 : (pack k b).getD i 0 = (beB (more 0#32 (head k b)).toNat 4).getD (i - (head k b).length) 0 := by
      rw [hpk]; simp [List.getD, List.getElem?_append_right (show (head k b).length ≤ i by omega)]
    rw [List.getD_eq_getElem?_getD, List.getD_eq_getElem?_getD] at h7
    rw [h7] at h6
    generalize ((beB (more 0#32 (head k b)).toNat 4)[i - (head k b).length]?.getD 0) = x at h6
    apply h
    have := congrArg (fun y => x ^^^ y) h6
    simpa [← UInt8.xor_assoc] using this.symm
theorem take_number (v s : Nat) (rs : List UInt8) (h1 : 1 ≤ s) (h8 : s ≤ 8) : takeM (beB v s ++ rs) s = (v % 256 ^ s, rs, 0) := by
  unfold takeM okSize
  rw [if_pos (by simp; omega), if_neg (by rw [List.length_append, beB_length]; omega), Int.toNat_natCast, List.take_left' (beB_length _ _), List.drop_left' (beB_length _ _), be_beB]
theorem take_head (k : UInt8) (b : List UInt8) (h : b.length < 4294967296) : (takeM (pack k b) 4).1 = b.length ∧ (takeM (pack k b) 4).2.2 = 0 := by
  have hl := pack_length k b
  unfold takeM okSize
  rw [if_pos (by simp), if_neg (by omega)]
  rw [show (4 : Int).toNat = 4 from rfl, pack_eq, List.take_left' (beB_length _ _), be_beB4 _ h]
  exact ⟨rfl, rfl⟩
theorem take_tail (k : UInt8) (b : List UInt8) : takeM ((pack k b).drop (b.length + 5)) 4 = ((more 0#32 (head k b)).toNat, [], 0) := by
  have e : (pack k b).drop (b.length + 5) = beB (more 0#32 (head k b)).toNat 4 ++ [] := by
    rw [pack, List.drop_left' (head_length k b), List.append_nil]
  rw [e, show (4 : Int) = ((4 : Nat) : Int) from rfl, take_number _ 4 [] (by omega) (by omega)]
  have := (more 0#32 (head k b)).isLt
  rw [Nat.mod_eq_of_lt (by omega)]
theorem pack_head (k : UInt8) (b : List UInt8) : (pack k b).take (b.length + 5) = head k b := by
  rw [pack, List.take_left' (head_length k b)]
theorem pack_four (k : UInt8) (b : List UInt8) : (pack k b).getD 4 0 = k := by
  have : (pack k b).drop 4 = [k] ++ (b ++ beB (more 0#32 (head k b)).toNat 4) := by rw [pack_eq, List.drop_left' (beB_length _ _)]
  have h2 := congrArg (fun l => l.getD 0 0) this
  simp [List.getD] at h2
  simpa [List.getD] using h2
theorem pack_mid (k : UInt8) (b : List UInt8) : ((pack k b).take (b.length + 5)).drop 5 = b := by
  rw [pack_head]
  unfold head
  rw [List.drop_left' (by simp [beB_length])]
end Go.Proofs.YtamjfcconhihhaaDoor.Frame
