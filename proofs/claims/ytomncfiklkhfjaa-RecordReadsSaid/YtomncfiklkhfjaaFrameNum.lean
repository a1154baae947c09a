/- The walks of package frame that need no check sum (numbers, copies): each function once, over any bytes that are read in memory. -/
import Derived.Test.YtomncfiklkhfjaaFrameMath
import Derived.Test.YtomncfiklkhfjaaBytes
import Derived.WalkSpells
import Derived.BigQuiet
import Derived.Deep.QuietTactic
import Derived.Deep.RegionHeld3
import Derived.Deep.DrawnRows
namespace Go.Proofs.Ytomncfiklkhfjaa.Frame
open Go.RowKit Mem Crc
theorem byteTy : ByteTy Try.prog 28 5 := ⟨Try.underlying28, Try.underlying5, by kernel_rfl⟩
/-- The call gives back bytes of its own, and nothing that was there has changed. -/
def RetB (w : World) (bs : List UInt8) (e : Ending) (w' : World) : Prop :=
  ∃ A N c, e = .returned (.slice A N c) ∧ Own w' w.heap.size 5 A N c bs ∧ Below w.heap.size w w'

set_option maxHeartbeats 400000 in
/-- 'slices.Clone' of bytes. -/
theorem clone_any (A : Option Addr) (bs : List UInt8) (n cap : Nat) (w : World) (hn : bs.length = n) (hl : n ≤ 140737488355328) (hb : BAt w A bs) :
    Calls Try.prog 83 #[.slice A n cap] w (RetB w bs) := by
  have HB := Lib.hid hb
  have HN := Lib.hid hn
  clear hb hn
  cases A with
  | none =>
    have he : ∀ W, (binOp .eql 28 (.slice none n cap) (.slice none 0 0)).run Try.prog W = .ok (.bool true) W := fun W => Lib.run_eql_slice_nil W 28 5 none n cap 0 0 Try.underlying28
    go_enter Try.func83, Try.ntmps83
    go_wp2_with fail
    go_ret
    have hbs : bs = [] := by
      rcases Nat.eq_zero_or_pos bs.length with h0 | h0
      · exact List.eq_nil_of_length_eq_zero h0
      · obtain ⟨ad, h, _⟩ := HB.out h0
        cases h
    subst hbs
    exact ⟨_, _, _, rfl, Own.nil_ _ _ _, Below.refl _ _⟩
  | some ad =>
    have he : ∀ W, (binOp .eql 28 (.slice (some ad) n cap) (.slice none 0 0)).run Try.prog W = .ok (.bool false) W := fun W => Lib.run_eql_slice_nil W 28 5 (some ad) n cap 0 0 Try.underlying28
    go_enter Try.func83, Try.ntmps83
    go_wp2_with
      (at_builtin
       refine wpList_append_bytes rfl (.tmp 5) (.tmp 6) _ rfl w.heap.size _ byteTy _ 0 0 [] rfl (Own.new w _ _ rfl (Nat.le_refl _) (by rfl) rfl (by decide)) _ n cap bs rfl
         (HB.out.below ((Below.refl _ _).alloc (Nat.le_refl _) _)) HN.out n (Nat.zero_add n) (by omega) (by simp) ?_
       intro A2 c2 w5 ho2 hg2 hb2 hA2
       have HO2 := Lib.hid ho2
       have HBW2 := Lib.hid (((Below.refl w.heap.size w).alloc (Nat.le_refl _) _).trans hb2)
       clear ho2 hg2 hb2 hA2)
    go_ret
    exact ⟨_, _, _, rfl, by simpa using HO2.out, HBW2.out⟩
attribute [local go_sem] or_be
set_option maxHeartbeats 400000 in
/-- 'high': the number of up to eight bytes. -/
theorem high_any (A : Option Addr) (bs : List UInt8) (n cap : Nat) (w : World) (hn : bs.length = n) (hl : n ≤ 8) (hb : BAt w A bs) :
    Calls Try.prog 91 #[.slice A n cap] w fun e w' => e = .returned (.tuple #[.int .u64 (be bs : Nat), .int .i64 n]) ∧ w = w' := by
  have HB := Lib.hid hb
  have HN := Lib.hid hn
  clear hb hn
  go_enter Try.func91, Try.ntmps91
  go_wp2
  go_loop [4, 9] (fun r i => ∃ k : Nat, k ≤ n ∧ i = .int .i64 k ∧ r = .int .u64 (be (bs.take k) : Nat)) (fun _ i => n - (intOf i).toNat)
  case atStart => exact ⟨0, Nat.zero_le _, rfl, rfl⟩
  case round =>
    obtain ⟨k, hk, rfl, rfl⟩ := hrel
    by_cases hlt : k < n
    · have hkl : k < bs.length := by have := HN.out; omega
      have hs : be (bs.take (k + 1)) = be (bs.take k) * 256 + bs[k].toNat := by rw [List.take_succ_eq_append_getElem hkl, be_snoc]
      have hlt1 := be_lt (bs.take k)
      rw [List.length_take_of_le (by omega)] at hlt1
      have h7 : 256 ^ k ≤ 256 ^ 7 := Nat.pow_le_pow_right (by decide) (by omega)
      generalize hr : be (bs.take k) = r at *
      have H := Lib.hid hs
      clear hs hr
      obtain ⟨ad, rfl, hc⟩ := HB.out (by omega)
      have hcell : w.cell? (ad.add k) = some (.int .u8 (V8 bs[k])) := by have := hc k hkl; simpa [List.getD, hkl] using this
      clear hc
      have hr7 : r < 72057594037927936 := by omega
      clear h7 hlt1
      have hv := V8_lt bs[k]
      go_wp2
      go_round
      case rel => exact ⟨k + 1, hlt, by go_num, by rw [H.out]; simp⟩
      case measure => simp [intOf]; omega
    · obtain rfl : k = n := by omega
      have hz : be (bs.take k) = be bs := by rw [List.take_of_length_le (by have := HN.out; omega)]
      clear HB
      rw [hz]
      go_wp2
      go_ret2
      exact ⟨rfl, rfl⟩
/-- The array that Number fills, after k rounds. -/
def RowRel (w : World) (g n : Nat) (i : Value) (wr : World) : Prop :=
  ∃ (k : Nat) (row : List UInt8), k ≤ 8 ∧ i = .int .i64 k ∧ row.length = 8 ∧ Blk wr g 117 (cellsOf row) ∧ Below g w wr ∧ g < wr.heap.size ∧ ∀ j, j < k → row.getD j 0 = (beB n 8).getD j 0
set_option maxHeartbeats 400000 in
/-- 'Number', of a size that is none. -/
theorem number_no (A : Option Addr) (bs : List UInt8) (m cap : Nat) (n : Nat) (size : Int) (w : World) (hm : bs.length = m) (hl : m ≤ 140737488355328) (hb : BAt w A bs) (hsz : ¬ (1 ≤ size ∧ size ≤ 8)) :
    Calls Try.prog 55 #[.slice A m cap, .int .u64 n, .int .i64 size] w (RetB w bs) := by
  have HC := Lib.hid (clone_any A bs m cap w hm hl hb)
  clear hb hm
  have hcase : size < 1 ∨ ¬ size < 1 ∧ 8 < size := by omega
  clear hsz
  rcases hcase with h1 | ⟨h1, h2⟩
  all_goals
    go_enter Try.func55, Try.ntmps55
    go_wp2_with fail
    refine HC.out.mono ?_
    rintro e w1 ⟨A1, N1, c1, rfl, ho, hbw⟩
    have HO := Lib.hid ho
    have HBW := Lib.hid hbw
    clear ho hbw HC
    go_wp2_with fail
    go_ret
    exact ⟨_, _, _, rfl, HO.out, HBW.out⟩
set_option maxHeartbeats 400000 in
/-- 'Number', of 1 to 8 bytes. -/
theorem number_yes (A : Option Addr) (bs : List UInt8) (m cap : Nat) (n : Nat) (size : Nat) (w : World) (hm : bs.length = m) (hl : m ≤ 140737488355320) (hb : BAt w A bs) (h1 : 1 ≤ size) (h8 : size ≤ 8) (hn : n < 18446744073709551616) :
    Calls Try.prog 55 #[.slice A m cap, .int .u64 n, .int .i64 size] w (RetB w (bs ++ beB n size)) := by
  have HC := Lib.hid (clone_any A bs m cap w hm (by omega) hb)
  have HM := Lib.hid hm
  clear hb hm
  go_enter Try.func55, Try.ntmps55
  go_wp2_with fail
  refine HC.out.mono ?_
  rintro e w1 ⟨A1, N1, c1, rfl, ho, hbw⟩
  obtain rfl : N1 = m := by rw [← ho.len]; exact HM.out
  have HO := Lib.hid ho
  have HBW := Lib.hid hbw
  have hsz := hbw.size
  clear ho hbw HC
  go_wp2_with fail
  go_loopw [19] (fun i wr => RowRel w1 w1.heap.size n i wr) (fun i _ => 8 - (intOf i).toNat)
  case atStart => exact ⟨0, List.replicate 8 0, by omega, rfl, rfl, Blk.new w1 _ _, (Below.refl _ _).alloc (Nat.le_refl _) _, by simp, fun j hj => absurd hj (by omega)⟩
  case round =>
    obtain ⟨k, row, hk, rfl, hrl, hG, hW, hlt', hj⟩ := hrel
    have HG := Lib.hid hG
    have HW := Lib.hid hW
    have HJ := Lib.hid hj
    have HR := Lib.hid hrl
    clear hG hW hj hrl
    by_cases hlt : k < 8
    · have h4 := HG.out.byte (k := k) (by have := HR.out; omega)
      have h5 := HG.out.frozen k
      go_wp2
      go_roundw
      case rel =>
        rw [shr_byte n k hlt]
        refine ⟨k + 1, row.set k (UInt8.ofNat (n / 256 ^ (7 - k))), hlt, by go_num, by simpa using HR.out, HG.out.setByte k _, HW.out.setCell (Nat.le_refl _) _, by simpa [World.setCell] using hlt', fun j hj => ?_⟩
        rcases Nat.lt_or_ge j k with h | h
        · have := HJ.out j h
          simp [List.getD, List.getElem?_set, Nat.ne_of_gt h] at this ⊢
          exact this
        · obtain rfl : j = k := by omega
          have := beB_get n 8 j hlt
          rw [this]
          have hr := HR.out
          simp [List.getD, hr, hlt]
      case measure => simp [intOf]; omega
    · obtain rfl : k = 8 := by omega
      have hrow : row = beB n 8 := by
        have h8 := HR.out
        apply List.ext_getElem (by rw [h8, beB_length])
        intro j h1 h2
        have := HJ.out j (by omega)
        simpa [List.getD, h1, h2] using this
      subst hrow
      have HT := Lib.hid ((HG.out.bat).drop (8 - size))
      have hd : (beB n 8).drop (8 - size) = beB n size := by
        have := beB_drop n (8 - size) size
        rwa [show 8 - size + size = 8 by omega] at this
      rw [hd, add_off, Nat.zero_add] at HT
      have HO' := Lib.hid (HO.out.below HW.out)
      have HBW' := Lib.hid (HBW.out.trans (HW.out.mono hsz))
      clear HG HW HJ HR hd HO HBW
      have hcut := fun W => run_cutArray (P := Try.prog) 117 5 8 Try.underlying117 byteTy.hi w1.heap.size 0 .i64 (8 - (size : Int)) (8 - size) (by omega) (by omega) W
      rw [Nat.zero_add, show 8 - (8 - size) = size by omega] at hcut
      go_wp2_with
        (at_builtin
         refine wpList_append_bytes rfl (.tmp 31) (.tmp 34) _ rfl w.heap.size _ byteTy _ _ _ bs rfl HO'.out _ size _ (beB n size) rfl
           HT.out (beB_length _ _) (N1 + size) rfl (by omega) HBW'.out.size ?_
         intro A2 c2 w5 ho2 hg2 hb2 hA2
         have HO2 := Lib.hid ho2
         have HBW2 := Lib.hid (HBW'.out.trans hb2)
         clear ho2 hg2 hb2 hA2)
      go_ret
      exact ⟨_, _, _, rfl, HO2.out, HBW2.out⟩
/-- Number, all sizes. -/
theorem number_any (A : Option Addr) (bs : List UInt8) (m cap : Nat) (n : Nat) (size : Int) (w : World) (hm : bs.length = m) (hl : m ≤ 140737488355320) (hb : BAt w A bs) (hn : n < 18446744073709551616) :
    Calls Try.prog 55 #[.slice A m cap, .int .u64 n, .int .i64 size] w (RetB w (number bs n size)) := by
  unfold number okSize
  by_cases h : 1 ≤ size ∧ size ≤ 8
  · rw [if_pos (by simpa using h)]
    obtain ⟨s, rfl⟩ := Int.eq_ofNat_of_zero_le (show 0 ≤ size by omega)
    rw [Int.toNat_natCast]
    exact number_yes A bs m cap n s w hm hl hb (by omega) (by omega) hn
  · rw [if_neg (by simpa using h)]
    exact number_no A bs m cap n size w hm (by omega) hb h
/-- What Take gives back. -/
def RetT (w : World) (r : Nat × List UInt8 × Int) (e : Ending) (w' : World) : Prop :=
  ∃ A N c, e = .returned (.tuple #[.int .u64 (r.1 : Nat), .slice A N c, .int .i64 r.2.2]) ∧ Own w' w.heap.size 5 A N c r.2.1 ∧ Below w.heap.size w w'
set_option maxHeartbeats 400000 in
theorem take_no (A : Option Addr) (m cap : Nat) (size : Int) (w : World) (hsz : ¬ (1 ≤ size ∧ size ≤ 8)) :
    Calls Try.prog 90 #[.slice A m cap, .int .i64 size] w (RetT w (0, [], 1)) := by
  have hcase : size < 1 ∨ ¬ size < 1 ∧ 8 < size := by omega
  clear hsz
  rcases hcase with h1 | ⟨h1, h2⟩
  all_goals
    go_enter Try.func90, Try.ntmps90
    go_wp2
    go_ret3
    exact ⟨_, _, _, rfl, Own.nil_ _ _ _, Below.refl _ _⟩
set_option maxHeartbeats 400000 in
theorem take_short (A : Option Addr) (m cap : Nat) (size : Int) (w : World) (h1 : 1 ≤ size) (h8 : size ≤ 8) (hm : (m : Int) < size) :
    Calls Try.prog 90 #[.slice A m cap, .int .i64 size] w (RetT w (0, [], 40)) := by
  go_enter Try.func90, Try.ntmps90
  go_wp2
  go_ret3
  exact ⟨_, _, _, rfl, Own.nil_ _ _ _, Below.refl _ _⟩
set_option maxHeartbeats 400000 in
theorem take_yes (A : Option Addr) (bs : List UInt8) (m cap : Nat) (size : Nat) (w : World) (hl : bs.length = m) (hcap : m ≤ cap) (hmax : m ≤ 140737488355328) (hb : BAt w A bs) (h1 : 1 ≤ size) (h8 : size ≤ 8) (hm : size ≤ m) :
    Calls Try.prog 90 #[.slice A m cap, .int .i64 size] w (RetT w (be (bs.take size), bs.drop size, 0)) := by
  have hc1 := fun W => run_cut_h (P := Try.prog) 28 5 byteTy A m cap .i64 (size : Int) size rfl (by omega) W
  have hc2 := fun W => run_cut_l (P := Try.prog) 28 5 byteTy A m cap .i64 (size : Int) size rfl hm W
  have HC := Lib.hid (high_any A (bs.take size) size cap w (by simp; omega) h8 (hb.take size))
  have HB := Lib.hid hb
  have HL := Lib.hid hl
  have hlt : ¬ (m : Int) < (size : Int) := by omega
  clear hb hl
  go_enter Try.func90, Try.ntmps90
  go_wp2_with fail
  refine HC.out.mono ?_
  rintro e w1 ⟨rfl, rfl⟩
  clear HC
  have hsub : (m : Int) - (size : Int) = ((m - size : Nat) : Int) := by omega
  have hcn : cutA A cap size = none → cap - size = 0 := by
    intro h
    obtain ⟨ad, rfl, _⟩ := HB.out (by have := HL.out; omega)
    unfold cutA at h
    split at h
    · cases h
    · cases h
  have hdl : (bs.drop size).length = m - size := by have := HL.out; simp; omega
  have HN := Lib.hid hcn
  have HD := Lib.hid hdl
  clear hcn hdl
  go_wp2_with (first
    | (refine wpList_make_bytes rfl (.tmp 29) (.tmp 29) _ _ rfl byteTy _ _ (m - size) rfl rfl (by omega) ?_
       intro w2 hb2 hw2 hz2
       have HG2 := Lib.hid hb2
       have HBW2 := Lib.hid hw2
       have HB2 := Lib.hid ((HB.out.below hw2).cut cap size (by have := HL.out; omega))
       clear hb2 hw2)
    | (refine wpList_copy_bytes rfl (.tmp 31) (.tmp 34) _ rfl _ byteTy w.heap.size 0 (m - size) (m - size) _ _ rfl HG2.out (cutA A cap size) (m - size) (cap - size) (bs.drop size) rfl HB2.out HD.out (m - size) (Nat.min_self _).symm (by simp) HN.out ?_
       intro w3 hb3 hg3 hz3
       have HG3 := Lib.hid hb3
       have HBW3 := Lib.hid ((HBW2.out).grown hg3 (Nat.le_of_lt hz2) (by simp))
       clear hb3 hg3 hz3))
  go_ret3
  have e1 : List.take 0 (List.replicate (m - size) (0 : UInt8)) ++ (bs.drop size).take (m - size) ++ List.drop (0 + (m - size)) (List.replicate (m - size) 0) = bs.drop size := by
    have := HD.out
    rw [Nat.zero_add, List.take_zero, List.nil_append, List.take_of_length_le (Nat.le_of_eq this), List.drop_eq_nil_of_le (Nat.le_of_eq List.length_replicate), List.append_nil]
  have hg := HG3.out
  rw [e1] at hg
  exact ⟨_, _, _, rfl, Own.of_blk hg (Nat.le_refl _) HD.out (by unfold maxLen; omega), HBW3.out⟩
theorem take_any (A : Option Addr) (bs : List UInt8) (m cap : Nat) (size : Int) (w : World) (hl : bs.length = m) (hcap : m ≤ cap) (hmax : m ≤ 140737488355328) (hb : BAt w A bs) :
    Calls Try.prog 90 #[.slice A m cap, .int .i64 size] w (RetT w (takeM bs size)) := by
  unfold takeM okSize
  by_cases h : 1 ≤ size ∧ size ≤ 8
  · rw [if_pos (by simpa using h)]
    by_cases hs : (bs.length : Int) < size
    · rw [if_pos hs]
      exact take_short A m cap size w h.1 h.2 (by omega)
    · rw [if_neg hs]
      obtain ⟨s, rfl⟩ := Int.eq_ofNat_of_zero_le (show 0 ≤ size by omega)
      rw [Int.toNat_natCast]
      exact take_yes A bs m cap s w hl hcap hmax hb (by omega) (by omega) (by omega)
  · rw [if_neg (by simpa using h)]
    exact take_no A m cap size w h
end Go.Proofs.Ytomncfiklkhfjaa.Frame
