/- The walks of package crc and of its reference: each function once, over any bytes that are read in memory. -/
import Derived.Test.YtamjfcconhihhaaDoorRows
import Derived.Test.YtamjfcconhihhaaDoorCrcMath
import Derived.WalkKit
import Derived.Lib.Hide
import Derived.Test.YtamjfcconhihhaaDoorMem
namespace Go.Proofs.YtamjfcconhihhaaDoor.Crc
open Go.RowKit Mem
/-- The table of sums lies where it was laid. -/
def Tab (w : World) : Prop := ∀ i, i < 16 → w.cell? ⟨0, i, none⟩ = some (.int .u32 (U (nib i)))
theorem Tab.below {w w' : World} {B : Nat} (h : Tab w) (hb : Below B w w') (hB : 0 < B) : Tab w' := fun i hi => (hb.cell (p := ⟨0, i, none⟩) hB).trans (h i hi)
theorem Tab.same {w w' : World} (h : Tab w) (hw : ∀ o, w'.cell? ⟨0, o, none⟩ = w.cell? ⟨0, o, none⟩) : Tab w' := fun i hi => (hw i).trans (h i hi)

section
attribute [local go_sem] xor_z8 and_15 xor_shr4 not_bv
set_option maxHeartbeats 400000 in
theorem more_walk (s : BitVec 32) (A : Option Addr) (bs : List UInt8) (cap : Nat) (w : World) (hl : bs.length ≤ 9223372036854775807) (hb : BAt w A bs) (ht : Tab w) :
    Calls Tryd.prog 19 #[.int .u32 (U s), .slice A bs.length cap] w fun e w' => e = .returned (.int .u32 (U (~~~ (bs.foldl byteT (~~~ s))))) ∧ w = w' := by
  have HB := Lib.hid hb
  have HT := Lib.hid ht
  clear hb ht
  go_enter Tryd.func19, Tryd.ntmps19
  go_wp2
  go_loop [5, 12] (fun r i => ∃ k : Nat, k ≤ bs.length ∧ i = .int .i64 k ∧ r = .int .u32 (U ((bs.take k).foldl byteT (~~~ s)))) (fun _ i => bs.length - (intOf i).toNat)
  case atStart => exact ⟨0, Nat.zero_le _, rfl, rfl⟩
  case round =>
    obtain ⟨k, hk, rfl, rfl⟩ := hrel
    by_cases hlt : k < bs.length
    · have hs : (bs.take (k + 1)).foldl byteT (~~~ s) = half (half ((bs.take k).foldl byteT (~~~ s) ^^^ z8 bs[k])) := by
        rw [List.take_succ_eq_append_getElem hlt, List.foldl_append]; rfl
      generalize hr : (bs.take k).foldl byteT (~~~ s) = r at *
      have H := Lib.hid hs
      clear hs hr
      obtain ⟨ad, rfl, hc⟩ := HB.out (by omega)
      have hcell : w.cell? (ad.add k) = some (.int .u8 (V8 (bs.getD k 0))) := hc k hlt
      have l1 := lo4_lt (r ^^^ z8 bs[k])
      have h1 := HT.out (lo4 (r ^^^ z8 bs[k])) l1
      have l2 := lo4_lt (half (r ^^^ z8 bs[k]))
      have h2 := HT.out (lo4 (half (r ^^^ z8 bs[k]))) l2
      clear hc
      unfold half at l2 h2
      simp only [show ∀ x : BitVec 32, x.toNat % 16 = lo4 x from fun _ => rfl] at l2 h2
      go_wp2
      go_round
      case rel => exact ⟨k + 1, hlt, by go_num, by rw [H.out]; rfl⟩
      case measure => simp [intOf]; omega
    · obtain rfl : k = bs.length := by omega
      clear HB HT
      go_wp2
      go_ret
      exact ⟨rfl, rfl⟩
end
/-- 'crc.More'. -/
theorem more_any (s : BitVec 32) (A : Option Addr) (bs : List UInt8) (n cap : Nat) (w : World) (hn : bs.length = n) (hl : n ≤ 9223372036854775807) (hb : BAt w A bs) (ht : Tab w) :
    Calls Tryd.prog 19 #[.int .u32 (U s), .slice A n cap] w fun e w' => e = .returned (.int .u32 (U (more s bs))) ∧ w = w' := by
  subst hn
  refine (more_walk s A bs cap w hl hb ht).mono ?_
  rintro e w' ⟨rfl, rfl⟩
  rw [foldl_byteT]
  exact ⟨rfl, rfl⟩
/-- 'crc.Sum'. -/
theorem sum_any (A : Option Addr) (bs : List UInt8) (n cap : Nat) (w : World) (hn : bs.length = n) (hl : n ≤ 9223372036854775807) (hb : BAt w A bs) (ht : Tab w) :
    Calls Tryd.prog 17 #[.slice A n cap] w fun e w' => e = .returned (.int .u32 (U (more 0#32 bs))) ∧ w = w' := by
  have h := more_any 0#32 A bs n cap w hn hl hb ht
  rw [show U 0#32 = 0 from rfl] at h
  have HC := Lib.hid h
  clear h hn hb ht
  go_enter Tryd.func17, Tryd.ntmps17
  go_wp2_with (go_at_call 19; refine (HC.out).mono ?_; rintro e w' ⟨rfl, rfl⟩)
  go_ret
  exact ⟨rfl, rfl⟩
theorem sum_q (A : Option Addr) (bs : List UInt8) (n cap : Nat) (w : World) (hn : bs.length = n) (hl : n ≤ 9223372036854775807) (hb : BAt w A bs) (ht : Tab w) (N : Nat) :
    Calls Tryd.prog 17 #[.slice A n cap] (w.drewN N) fun e w' => e = .returned (.int .u32 (U (more 0#32 bs))) ∧ w' = w.drewN N :=
  (sum_any A bs n cap (w.drewN N) hn hl hb ht).mono fun _ _ h => ⟨h.1, h.2.symm⟩

/-! ### The reference -/
section
attribute [local go_sem] xor_z8 not_bv
set_option maxHeartbeats 400000 in
theorem refMore_any (s : BitVec 32) (A : Option Addr) (bs : List UInt8) (n cap : Nat) (w : World) (hn : bs.length = n) (hl : n ≤ 9223372036854775807) (hb : BAt w A bs) :
    Calls Tryd.prog 20 #[.int .u32 (U s), .slice A n cap] w fun e w' => e = .returned (.int .u32 (U (more s bs))) ∧ w = w' := by
  subst hn
  have HB := Lib.hid hb
  clear hb
  go_enter Tryd.func20, Tryd.ntmps20
  go_wp2
  go_loop [5, 6] (fun r i => ∃ k : Nat, k ≤ bs.length ∧ i = .int .i64 k ∧ r = .int .u32 (U ((bs.take k).foldl byteB (~~~ s)))) (fun _ i => bs.length - (intOf i).toNat)
  case atStart => exact ⟨0, Nat.zero_le _, rfl, rfl⟩
  case round =>
    obtain ⟨k, hk, rfl, rfl⟩ := hrel
    by_cases hlt : k < bs.length
    · have hs : (bs.take (k + 1)).foldl byteB (~~~ s) = rep 8 bit1 ((bs.take k).foldl byteB (~~~ s) ^^^ z8 bs[k]) := by
        rw [List.take_succ_eq_append_getElem hlt, List.foldl_append]; rfl
      generalize hr : (bs.take k).foldl byteB (~~~ s) = r at *
      have H := Lib.hid hs
      clear hs hr
      obtain ⟨ad, rfl, hc⟩ := HB.out (by omega)
      have hcell : w.cell? (ad.add k) = some (.int .u8 (V8 (bs.getD k 0))) := hc k hlt
      clear hc
      go_wp2
      generalize hr : r ^^^ z8 bs[k] = q at *
      clear hr
      go_loop [5, 7] (fun r i => ∃ j : Nat, j ≤ 8 ∧ i = .int .i64 j ∧ r = .int .u32 (U (rep j bit1 q))) (fun _ i => 8 - (intOf i).toNat)
      case atStart => exact ⟨0, Nat.zero_le _, rfl, rfl⟩
      case round =>
        obtain ⟨j, hj, rfl, rfl⟩ := hrel
        by_cases hlt' : j < 8
        · have hb := (U_lt (rep j bit1 q)).1
          have hsucc : rep (j + 1) bit1 q = bit1 (rep j bit1 q) := rfl
          have H' := Lib.hid hsucc
          clear hsucc
          generalize rep j bit1 q = p at *
          by_cases ho : U p % 2 = 1
          · have hx := Lib.hid (bit1_odd ho)
            have ho' : (U p % 2 == 1) = true := by simpa using ho
            clear ho
            go_wp2
            go_round
            case rel => exact ⟨j + 1, hlt', by go_num, by rw [H'.out, hx.out, shr1_bv, xor_poly]⟩
            case measure => simp [intOf]; omega
          · have hx := Lib.hid (bit1_even ho)
            have ho' : (U p % 2 == 1) = false := by simpa using ho
            clear ho
            go_wp2
            go_round
            case rel => exact ⟨j + 1, hlt', by go_num, by rw [H'.out, hx.out, shr1_bv]⟩
            case measure => simp [intOf]; omega
        · obtain rfl : j = 8 := by omega
          go_wp2
          go_round
          case rel => exact ⟨k + 1, hlt, by go_num, by rw [H.out]⟩
          case measure => simp [intOf]; omega
    · obtain rfl : k = bs.length := by omega
      clear HB
      go_wp2
      go_ret
      exact ⟨rfl, rfl⟩
end
theorem refSum_any (A : Option Addr) (bs : List UInt8) (n cap : Nat) (w : World) (hn : bs.length = n) (hl : n ≤ 9223372036854775807) (hb : BAt w A bs) :
    Calls Tryd.prog 18 #[.slice A n cap] w fun e w' => e = .returned (.int .u32 (U (more 0#32 bs))) ∧ w = w' := by
  have h := refMore_any 0#32 A bs n cap w hn hl hb
  rw [show U 0#32 = 0 from rfl] at h
  have HC := Lib.hid h
  clear h hn hb
  go_enter Tryd.func18, Tryd.ntmps18
  go_wp2_with (go_at_call 20; refine (HC.out).mono ?_; rintro e w' ⟨rfl, rfl⟩)
  go_ret
  exact ⟨rfl, rfl⟩
end Go.Proofs.YtamjfcconhihhaaDoor.Crc
