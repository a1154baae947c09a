/- The walks of package frame: each function once, over any bytes that are read in memory. -/
import Derived.Test.YtamjfcconhihhaaDoorFrameMath
import Derived.Test.YtamjfcconhihhaaDoorBytes
import Derived.Test.YtamjfcconhihhaaDoorCrcWalks
import Derived.WalkSpells
import Derived.BigQuiet
import Derived.Deep.QuietTactic
import Derived.Deep.RegionHeld3
import Derived.Deep.DrawnRows
namespace Go.Proofs.YtamjfcconhihhaaDoor.Frame
open Go.RowKit Mem Crc
theorem byteTy : ByteTy Tryd.prog 22 5 := ⟨Tryd.underlying22, Tryd.underlying5, by kernel_rfl⟩
/-- The call gives back bytes of its own, and nothing that was there has changed. -/
def RetB (w : World) (bs : List UInt8) (e : Ending) (w' : World) : Prop :=
  ∃ A N c, e = .returned (.slice A N c) ∧ Own w' w.heap.size 5 A N c bs ∧ Below w.heap.size w w'

set_option maxHeartbeats 400000 in
/-- 'slices.Clone' of bytes. -/
theorem clone_any (A : Option Addr) (bs : List UInt8) (n cap : Nat) (w : World) (hn : bs.length = n) (hl : n ≤ 140737488355328) (hb : BAt w A bs) :
    Calls Tryd.prog 33 #[.slice A n cap] w (RetB w bs) := by
  have HB := Lib.hid hb
  have HN := Lib.hid hn
  clear hb hn
  cases A with
  | none =>
    have he : ∀ W, (binOp .eql 22 (.slice none n cap) (.slice none 0 0)).run Tryd.prog W = .ok (.bool true) W := fun W => Lib.run_eql_slice_nil W 22 5 none n cap 0 0 Tryd.underlying22
    go_enter Tryd.func33, Tryd.ntmps33
    go_wp2_with fail
    go_ret
    have hbs : bs = [] := by
      rcases Nat.eq_zero_or_pos bs.length with h0 | h0
      · exact List.eq_nil_of_length_eq_zero h0
      · obtain ⟨ad, h, _⟩ := HB.out h0
        cases h
    subst hbs
    exact ⟨_, _, _, rfl, Own.nil_ _ _ _, Below.refl _ _⟩
  | some ad =>
    have he : ∀ W, (binOp .eql 22 (.slice (some ad) n cap) (.slice none 0 0)).run Tryd.prog W = .ok (.bool false) W := fun W => Lib.run_eql_slice_nil W 22 5 (some ad) n cap 0 0 Tryd.underlying22
    go_enter Tryd.func33, Tryd.ntmps33
    go_wp2_with
      (at_builtin
       refine wpList_append_bytes rfl (.tmp 5) (.tmp 6) _ rfl w.heap.size _ byteTy _ 0 0 [] rfl (Own.new w _ _ rfl (Nat.le_refl _) (by rfl) rfl (by decide)) _ n cap bs rfl
         (HB.out.below ((Below.refl _ _).alloc (Nat.le_refl _) _)) HN.out n (Nat.zero_add n) (by omega) (by simp) ?_
       intro A2 c2 w5 ho2 hg2 hb2 hA2
       have HO2 := Lib.hid ho2
       have HBW2 := Lib.hid (((Below.refl w.heap.size w).alloc (Nat.le_refl _) _).trans hb2)
       clear ho2 hg2 hb2 hA2)
    go_ret
    exact ⟨_, _, _, rfl, by simpa using HO2.out, HBW2.out⟩
attribute [local go_sem] or_be
set_option maxHeartbeats 400000 in
/-- 'high': the number of up to eight bytes. -/
theorem high_any (A : Option Addr) (bs : List UInt8) (n cap : Nat) (w : World) (hn : bs.length = n) (hl : n ≤ 8) (hb : BAt w A bs) :
    Calls Tryd.prog 32 #[.slice A n cap] w fun e w' => e = .returned (.tuple #[.int .u64 (be bs : Nat), .int .i64 n]) ∧ w = w' := by
  have HB := Lib.hid hb
  have HN := Lib.hid hn
  clear hb hn
  go_enter Tryd.func32, Tryd.ntmps32
  go_wp2
  go_loop [4, 9] (fun r i => ∃ k : Nat, k ≤ n ∧ i = .int .i64 k ∧ r = .int .u64 (be (bs.take k) : Nat)) (fun _ i => n - (intOf i).toNat)
  case atStart => exact ⟨0, Nat.zero_le _, rfl, rfl⟩
  case round =>
    obtain ⟨k, hk, rfl, rfl⟩ := hrel
    by_cases hlt : k < n
    · have hkl : k < bs.length := by have := HN.out; omega
      have hs : be (bs.take (k + 1)) = be (bs.take k) * 256 + bs[k].toNat := by rw [List.take_succ_eq_append_getElem hkl, be_snoc]
      have hlt1 := be_lt (bs.take k)
      rw [List.length_take_of_le (by omega)] at hlt1
      have h7 : 256 ^ k ≤ 256 ^ 7 := Nat.pow_le_pow_right (by decide) (by omega)
      generalize hr : be (bs.take k) = r at *
      have H := Lib.hid hs
      clear hs hr
      obtain ⟨ad, rfl, hc⟩ := HB.out (by omega)
      have hcell : w.cell? (ad.add k) = some (.int .u8 (V8 bs[k])) := by have := hc k hkl; simpa [List.getD, hkl] using this
      clear hc
      have hr7 : r < 72057594037927936 := by omega
      clear h7 hlt1
      have hv := V8_lt bs[k]
      go_wp2
      go_round
      case rel => exact ⟨k + 1, hlt, by go_num, by rw [H.out]; simp⟩
      case measure => simp [intOf]; omega
    · obtain rfl : k = n := by omega
      have hz : be (bs.take k) = be bs := by rw [List.take_of_length_le (by have := HN.out; omega)]
      clear HB
      rw [hz]
      go_wp2
      go_ret2
      exact ⟨rfl, rfl⟩
/-- The array that Number fills, after k rounds. -/
def RowRel (w : World) (g n : Nat) (i : Value) (wr : World) : Prop :=
  ∃ (k : Nat) (row : List UInt8), k ≤ 8 ∧ i = .int .i64 k ∧ row.length = 8 ∧ Blk wr g 54 (cellsOf row) ∧ Below g w wr ∧ g < wr.heap.size ∧ ∀ j, j < k → row.getD j 0 = (beB n 8).getD j 0
set_option maxHeartbeats 400000 in
/-- 'Number', of a size that is none. -/
theorem number_no (A : Option Addr) (bs : List UInt8) (m cap : Nat) (n : Nat) (size : Int) (w : World) (hm : bs.length = m) (hl : m ≤ 140737488355328) (hb : BAt w A bs) (hsz : ¬ (1 ≤ size ∧ size ≤ 8)) :
    Calls Tryd.prog 28 #[.slice A m cap, .int .u64 n, .int .i64 size] w (RetB w bs) := by
  have HC := Lib.hid (clone_any A bs m cap w hm hl hb)
  clear hb hm
  have hcase : size < 1 ∨ ¬ size < 1 ∧ 8 < size := by omega
  clear hsz
  rcases hcase with h1 | ⟨h1, h2⟩
  all_goals
    go_enter Tryd.func28, Tryd.ntmps28
    go_wp2_with fail
    refine HC.out.mono ?_
    rintro e w1 ⟨A1, N1, c1, rfl, ho, hbw⟩
    have HO := Lib.hid ho
    have HBW := Lib.hid hbw
    clear ho hbw HC
    go_wp2_with fail
    go_ret
    exact ⟨_, _, _, rfl, HO.out, HBW.out⟩
set_option maxHeartbeats 400000 in
/-- 'Number', of 1 to 8 bytes. -/
theorem number_yes (A : Option Addr) (bs : List UInt8) (m cap : Nat) (n : Nat) (size : Nat) (w : World) (hm : bs.length = m) (hl : m ≤ 140737488355320) (hb : BAt w A bs) (h1 : 1 ≤ size) (h8 : size ≤ 8) (hn : n < 18446744073709551616) :
    Calls Tryd.prog 28 #[.slice A m cap, .int .u64 n, .int .i64 size] w (RetB w (bs ++ beB n size)) := by
  have HC := Lib.hid (clone_any A bs m cap w hm (by omega) hb)
  have HM := Lib.hid hm
  clear hb hm
  go_enter Tryd.func28, Tryd.ntmps28
  go_wp2_with fail
  refine HC.out.mono ?_
  rintro e w1 ⟨A1, N1, c1, rfl, ho, hbw⟩
  obtain rfl : N1 = m := by rw [← ho.len]; exact HM.out
  have HO := Lib.hid ho
  have HBW := Lib.hid hbw
  have hsz := hbw.size
  clear ho hbw HC
  go_wp2_with fail
  go_loopw [19] (fun i wr => RowRel w1 w1.heap.size n i wr) (fun i _ => 8 - (intOf i).toNat)
  case atStart => exact ⟨0, List.replicate 8 0, by omega, rfl, rfl, Blk.new w1 _ _, (Below.refl _ _).alloc (Nat.le_refl _) _, by simp, fun j hj => absurd hj (by omega)⟩
  case round =>
    obtain ⟨k, row, hk, rfl, hrl, hG, hW, hlt', hj⟩ := hrel
    have HG := Lib.hid hG
    have HW := Lib.hid hW
    have HJ := Lib.hid hj
    have HR := Lib.hid hrl
    clear hG hW hj hrl
    by_cases hlt : k < 8
    · have h4 := HG.out.byte (k := k) (by have := HR.out; omega)
      have h5 := HG.out.frozen k
      go_wp2
      go_roundw
      case rel =>
        rw [shr_byte n k hlt]
        refine ⟨k + 1, row.set k (UInt8.ofNat (n / 256 ^ (7 - k))), hlt, by go_num, by simpa using HR.out, HG.out.setByte k _, HW.out.setCell (Nat.le_refl _) _, by simpa [World.setCell] using hlt', fun j hj => ?_⟩
        rcases Nat.lt_or_ge j k with h | h
        · have := HJ.out j h
          simp [List.getD, List.getElem?_set, Nat.ne_of_gt h] at this ⊢
          exact this
        · obtain rfl : j = k := by omega
          have := beB_get n 8 j hlt
          rw [this]
          have hr := HR.out
          simp [List.getD, hr, hlt]
      case measure => simp [intOf]; omega
    · obtain rfl : k = 8 := by omega
      have hrow : row = beB n 8 := by
        have h8 := HR.out
        apply List.ext_getElem (by rw [h8, beB_length])
        intro j h1 h2
        have := HJ.out j (by omega)
        simpa [List.getD, h1, h2] using this
      subst hrow
      have HT := Lib.hid ((HG.out.bat).drop (8 - size))
      have hd : (beB n 8).drop (8 - size) = beB n size := by
        have := beB_drop n (8 - size) size
        rwa [show 8 - size + size = 8 by omega] at this
      rw [hd, add_off, Nat.zero_add] at HT
      have HO' := Lib.hid (HO.out.below HW.out)
      have HBW' := Lib.hid (HBW.out.trans (HW.out.mono hsz))
      clear HG HW HJ HR hd HO HBW
      have hcut := fun W => run_cutArray (P := Tryd.prog) 54 5 8 Tryd.underlying54 byteTy.hi w1.heap.size 0 .i64 (8 - (size : Int)) (8 - size) (by omega) (by omega) W
      rw [Nat.zero_add, show 8 - (8 - size) = size by omega] at hcut
      go_wp2_with
        (at_builtin
         refine wpList_append_bytes rfl (.tmp 31) (.tmp 34) _ rfl w.heap.size _ byteTy _ _ _ bs rfl HO'.out _ size _ (beB n size) rfl
           HT.out (beB_length _ _) (N1 + size) rfl (by omega) HBW'.out.size ?_
         intro A2 c2 w5 ho2 hg2 hb2 hA2
         have HO2 := Lib.hid ho2
         have HBW2 := Lib.hid (HBW'.out.trans hb2)
         clear ho2 hg2 hb2 hA2)
      go_ret
      exact ⟨_, _, _, rfl, HO2.out, HBW2.out⟩
/-- Number, all sizes. -/
theorem number_any (A : Option Addr) (bs : List UInt8) (m cap : Nat) (n : Nat) (size : Int) (w : World) (hm : bs.length = m) (hl : m ≤ 140737488355320) (hb : BAt w A bs) (hn : n < 18446744073709551616) :
    Calls Tryd.prog 28 #[.slice A m cap, .int .u64 n, .int .i64 size] w (RetB w (number bs n size)) := by
  unfold number okSize
  by_cases h : 1 ≤ size ∧ size ≤ 8
  · rw [if_pos (by simpa using h)]
    obtain ⟨s, rfl⟩ := Int.eq_ofNat_of_zero_le (show 0 ≤ size by omega)
    rw [Int.toNat_natCast]
    exact number_yes A bs m cap n s w hm hl hb (by omega) (by omega) hn
  · rw [if_neg (by simpa using h)]
    exact number_no A bs m cap n size w hm (by omega) hb h
/-- What Take gives back. -/
def RetT (w : World) (r : Nat × List UInt8 × Int) (e : Ending) (w' : World) : Prop :=
  ∃ A N c, e = .returned (.tuple #[.int .u64 (r.1 : Nat), .slice A N c, .int .i64 r.2.2]) ∧ Own w' w.heap.size 5 A N c r.2.1 ∧ Below w.heap.size w w'
set_option maxHeartbeats 400000 in
theorem take_no (A : Option Addr) (m cap : Nat) (size : Int) (w : World) (hsz : ¬ (1 ≤ size ∧ size ≤ 8)) :
    Calls Tryd.prog 29 #[.slice A m cap, .int .i64 size] w (RetT w (0, [], 1)) := by
  have hcase : size < 1 ∨ ¬ size < 1 ∧ 8 < size := by omega
  clear hsz
  rcases hcase with h1 | ⟨h1, h2⟩
  all_goals
    go_enter Tryd.func29, Tryd.ntmps29
    go_wp2
    go_ret3
    exact ⟨_, _, _, rfl, Own.nil_ _ _ _, Below.refl _ _⟩
set_option maxHeartbeats 400000 in
theorem take_short (A : Option Addr) (m cap : Nat) (size : Int) (w : World) (h1 : 1 ≤ size) (h8 : size ≤ 8) (hm : (m : Int) < size) :
    Calls Tryd.prog 29 #[.slice A m cap, .int .i64 size] w (RetT w (0, [], 40)) := by
  go_enter Tryd.func29, Tryd.ntmps29
  go_wp2
  go_ret3
  exact ⟨_, _, _, rfl, Own.nil_ _ _ _, Below.refl _ _⟩
set_option maxHeartbeats 400000 in
theorem take_yes (A : Option Addr) (bs : List UInt8) (m cap : Nat) (size : Nat) (w : World) (hl : bs.length = m) (hcap : m ≤ cap) (hmax : m ≤ 140737488355328) (hb : BAt w A bs) (h1 : 1 ≤ size) (h8 : size ≤ 8) (hm : size ≤ m) :
    Calls Tryd.prog 29 #[.slice A m cap, .int .i64 size] w (RetT w (be (bs.take size), bs.drop size, 0)) := by
  have hc1 := fun W => run_cut_h (P := Tryd.prog) 22 5 byteTy A m cap .i64 (size : Int) size rfl (by omega) W
  have hc2 := fun W => run_cut_l (P := Tryd.prog) 22 5 byteTy A m cap .i64 (size : Int) size rfl hm W
  have HC := Lib.hid (high_any A (bs.take size) size cap w (by simp; omega) h8 (hb.take size))
  have HB := Lib.hid hb
  have HL := Lib.hid hl
  have hlt : ¬ (m : Int) < (size : Int) := by omega
  clear hb hl
  go_enter Tryd.func29, Tryd.ntmps29
  go_wp2_with fail
  refine HC.out.mono ?_
  rintro e w1 ⟨rfl, rfl⟩
  clear HC
  have hsub : (m : Int) - (size : Int) = ((m - size : Nat) : Int) := by omega
  have hcn : cutA A cap size = none → cap - size = 0 := by
    intro h
    obtain ⟨ad, rfl, _⟩ := HB.out (by have := HL.out; omega)
    unfold cutA at h
    split at h
    · cases h
    · cases h
  have hdl : (bs.drop size).length = m - size := by have := HL.out; simp; omega
  have HN := Lib.hid hcn
  have HD := Lib.hid hdl
  clear hcn hdl
  go_wp2_with (first
    | (refine wpList_make_bytes rfl (.tmp 29) (.tmp 29) _ _ rfl byteTy _ _ (m - size) rfl rfl (by omega) ?_
       intro w2 hb2 hw2 hz2
       have HG2 := Lib.hid hb2
       have HBW2 := Lib.hid hw2
       have HB2 := Lib.hid ((HB.out.below hw2).cut cap size (by have := HL.out; omega))
       clear hb2 hw2)
    | (refine wpList_copy_bytes rfl (.tmp 31) (.tmp 34) _ rfl _ byteTy w.heap.size 0 (m - size) (m - size) _ _ rfl HG2.out (cutA A cap size) (m - size) (cap - size) (bs.drop size) rfl HB2.out HD.out (m - size) (Nat.min_self _).symm (by simp) HN.out ?_
       intro w3 hb3 hg3 hz3
       have HG3 := Lib.hid hb3
       have HBW3 := Lib.hid ((HBW2.out).grown hg3 (Nat.le_of_lt hz2) (by simp))
       clear hb3 hg3 hz3))
  go_ret3
  have e1 : List.take 0 (List.replicate (m - size) (0 : UInt8)) ++ (bs.drop size).take (m - size) ++ List.drop (0 + (m - size)) (List.replicate (m - size) 0) = bs.drop size := by
    have := HD.out
    rw [Nat.zero_add, List.take_zero, List.nil_append, List.take_of_length_le (Nat.le_of_eq this), List.drop_eq_nil_of_le (Nat.le_of_eq List.length_replicate), List.append_nil]
  have hg := HG3.out
  rw [e1] at hg
  exact ⟨_, _, _, rfl, Own.of_blk hg (Nat.le_refl _) HD.out (by unfold maxLen; omega), HBW3.out⟩
theorem take_any (A : Option Addr) (bs : List UInt8) (m cap : Nat) (size : Int) (w : World) (hl : bs.length = m) (hcap : m ≤ cap) (hmax : m ≤ 140737488355328) (hb : BAt w A bs) :
    Calls Tryd.prog 29 #[.slice A m cap, .int .i64 size] w (RetT w (takeM bs size)) := by
  unfold takeM okSize
  by_cases h : 1 ≤ size ∧ size ≤ 8
  · rw [if_pos (by simpa using h)]
    by_cases hs : (bs.length : Int) < size
    · rw [if_pos hs]
      exact take_short A m cap size w h.1 h.2 (by omega)
    · rw [if_neg hs]
      obtain ⟨s, rfl⟩ := Int.eq_ofNat_of_zero_le (show 0 ≤ size by omega)
      rw [Int.toNat_natCast]
      exact take_yes A bs m cap s w hl hcap hmax hb (by omega) (by omega) (by omega)
  · rw [if_neg (by simpa using h)]
    exact take_no A m cap size w h
set_option maxHeartbeats 800000 in
/-- 'Pack'. -/
theorem pack_any (kind : UInt8) (A : Option Addr) (bs : List UInt8) (m cap : Nat) (w : World) (hm : bs.length = m) (hl : m ≤ 140737488355000) (hb : BAt w A bs) (ht : Tab w) (hg : 0 < w.heap.size) :
    Calls Tryd.prog 22 #[.int .u8 (V8 kind), .slice A m cap] w (RetB w (pack kind bs)) := by
  have HB := Lib.hid hb
  have HT := Lib.hid ht
  have HM := Lib.hid hm
  clear hb ht hm
  obtain ⟨i0, hi0, hz0, hs0, hby0⟩ := byteTy.info
  have hmk : ∀ W : World, (Instr.makeSlice 22 (.int .i64 0) (.int .i64 ((m : Int) + 9))).run Tryd.prog W = .ok (.slice (some ⟨W.heap.size, 0, none⟩) 0 (m + 9)) (W.alloc (.cells (cellsOf (List.replicate (m + 9) 0)) 5)) := fun W => run_makeCap byteTy 0 (m + 9) _ _ rfl (by omega) (by omega) (by omega) W
  clear hi0 hz0 hs0 hby0
  go_enter Tryd.func22, Tryd.ntmps22
  go_wp2_with fail
  have hb0 : Below w.heap.size w (w.alloc (.cells (cellsOf (List.replicate (m + 9) 0)) 5)) := (Below.refl _ _).alloc (Nat.le_refl _) _
  refine (number_yes _ [] 0 (m + 9) m 4 _ rfl (by omega) (BAt.nil_ _ _) (by omega) (by omega) (by omega)).mono ?_
  rintro e w1 ⟨A1, N1, c1, rfl, ho, hbw⟩
  obtain rfl : N1 = 4 := by rw [← ho.len]; simp [beB_length]
  have HO1 := Lib.hid (ho.mono hb0.size)
  have HW1 := Lib.hid (hb0.trans (hbw.mono hb0.size))
  clear hbw ho hb0 hmk
  go_wp2_with (first
    | (at_builtin
       refine wpList_append_bytes rfl (.tmp 15) (.tmp 17) _ rfl w.heap.size _ byteTy A1 4 c1 _ rfl (HO1.out.alloc _) _ 1 1 [kind] rfl
         (BAt.new _ _ _ _ (by rfl)) rfl 5 rfl (by omega) (by have := HW1.out.size; simp; omega) ?_
       intro A2 c2 w2 ho2 hg2 hb2 hA2
       have HO2 := Lib.hid ho2
       have HW2 := Lib.hid ((HW1.out.alloc HW1.out.size _).trans hb2)
       clear ho2 hg2 hb2 hA2)
    | (at_builtin
       refine wpList_append_bytes rfl (.tmp 19) (.tmp 20) _ rfl w.heap.size _ byteTy A2 5 c2 _ rfl HO2.out A m cap bs rfl
         (HB.out.below HW2.out) HM.out (5 + m) rfl (by omega) HW2.out.size ?_
       intro A3 c3 w3 ho3 hg3 hb3 hA3
       have HO3 := Lib.hid ho3
       have HW3 := Lib.hid (HW2.out.trans hb3)
       clear ho3 hg3 hb3 hA3))
  have hhead : [] ++ beB m 4 ++ [kind] ++ bs = head kind bs := by have := HM.out; subst this; simp [head]
  have HH := Lib.hid hhead
  clear hhead
  rw [HH.out] at HO3
  refine (sum_any _ (head kind bs) _ _ _ HO3.out.len (by omega) HO3.out.bat (HT.out.below HW3.out hg)).mono ?_
  rintro e w4 ⟨rfl, rfl⟩
  have hu : U (more 0#32 (head kind bs)) = (((more 0#32 (head kind bs)).toNat : Nat) : Int) := rfl
  rw [hu]
  have hlt : (more 0#32 (head kind bs)).toNat < 4294967296 := (more 0#32 (head kind bs)).isLt
  have hpk : pack kind bs = head kind bs ++ beB (more 0#32 (head kind bs)).toNat 4 := rfl
  clear hu
  generalize (more 0#32 (head kind bs)).toNat = s at *
  have HPK := Lib.hid hpk
  clear hpk
  go_wp2_with fail
  refine (number_yes A3 (head kind bs) (5 + m) c3 s 4 _ HO3.out.len (by omega) HO3.out.bat (by omega) (by omega) (by omega)).mono ?_
  rintro e w5 ⟨A5, N5, c5, rfl, ho, hbw⟩
  have hsz := HW3.out.size
  have HO5 := Lib.hid (ho.mono hsz)
  have HW5 := Lib.hid (HW3.out.trans (hbw.mono hsz))
  clear hbw ho
  go_wp2_with fail
  go_ret
  exact ⟨_, _, _, rfl, by rw [HPK.out]; exact HO5.out, HW5.out⟩
/-- What Unpack gives back. -/
def RetU (w : World) (r : Option (UInt8 × List UInt8 × List UInt8)) (e : Ending) (w' : World) : Prop :=
  (r = none ∧ e = .returned (.tuple #[.int .u8 0, .slice none 0 0, .slice none 0 0, .int .i64 40]) ∧ Below w.heap.size w w') ∨
  ∃ k p q A N c A' N' c', r = some (k, p, q) ∧ e = .returned (.tuple #[.int .u8 (V8 k), .slice A N c, .slice A' N' c', .int .i64 0]) ∧
    Own w' w.heap.size 5 A N c p ∧ Own w' w.heap.size 5 A' N' c' q ∧ Below w.heap.size w w' ∧ (A = none ∨ A.map (·.block) ≠ A'.map (·.block))
theorem RetU.some_ {w w' : World} {k : UInt8} {p q : List UInt8} {e : Ending} (h : RetU w (some (k, p, q)) e w') :
    ∃ A N c A' N' c', e = .returned (.tuple #[.int .u8 (V8 k), .slice A N c, .slice A' N' c', .int .i64 0]) ∧ Own w' w.heap.size 5 A N c p ∧ Own w' w.heap.size 5 A' N' c' q ∧ Below w.heap.size w w' ∧ (A = none ∨ A.map (·.block) ≠ A'.map (·.block)) := by
  rcases h with ⟨h, _⟩ | ⟨k', p', q', A, N, c, A', N', c', h, rest⟩
  · cases h
  · injection h with h
    injection h with h1 h2
    injection h2 with h2 h3
    subst h1 h2 h3
    exact ⟨A, N, c, A', N', c', rest⟩
theorem RetU.none_ {w w' : World} {e : Ending} (h : RetU w none e w') : e = .returned (.tuple #[.int .u8 0, .slice none 0 0, .slice none 0 0, .int .i64 40]) ∧ Below w.heap.size w w' := by
  rcases h with ⟨_, h⟩ | ⟨k', p', q', A, N, c, A', N', c', h, _⟩
  · exact h
  · cases h
theorem results_tmp4 {fn : Func} {t u v x : Tmp} (h : fn.results = #[.tmp t, .tmp u, .tmp v, .tmp x]) (tmps : Array Value) (P : Program) (w : World) :
    (results fn tmps).run P w = .ok (.tuple #[tmps.getD t undef, tmps.getD u undef, tmps.getD v undef, tmps.getD x undef]) w := by simp [results, h]
set_option maxHeartbeats 800000 in
theorem unpack_short (A : Option Addr) (m cap : Nat) (w : World) (hm : m < 9) :
    Calls Tryd.prog 26 #[.slice A m cap] w (RetU w none) := by
  go_enter Tryd.func26, Tryd.ntmps26
  go_wp2
  refine bodyPost_ret (results_tmp4 rfl _ _ _) rfl ?_
  exact .inl ⟨rfl, rfl, Below.refl _ _⟩
set_option maxHeartbeats 800000 in
theorem unpack_long (A : Option Addr) (bs : List UInt8) (m cap : Nat) (w : World) (hl : bs.length = m) (hcap : m ≤ cap) (hmax : m ≤ 140737488355328) (hb : BAt w A bs) (hm : 9 ≤ m) (hn : m - 9 < be (bs.take 4)) :
    Calls Tryd.prog 26 #[.slice A m cap] w (RetU w none) := by
  have hc1 := fun W => run_cut_h (P := Tryd.prog) 22 5 byteTy A m cap .i64 4 4 rfl (by omega) W
  have HC := Lib.hid (high_any A (bs.take 4) 4 cap w (by simp; omega) (by omega) (hb.take 4))
  have hlt := be_lt (bs.take 4)
  rw [List.length_take_of_le (by omega)] at hlt
  clear hb
  generalize be (bs.take 4) = n at *
  have hd : decide ((m : Int) - 9 < (n : Int)) = true := by simp; omega
  go_enter Tryd.func26, Tryd.ntmps26
  go_wp2_with fail
  refine HC.out.mono ?_
  rintro e w1 ⟨rfl, rfl⟩
  clear HC
  go_wp2
  refine bodyPost_ret (results_tmp4 rfl _ _ _) rfl ?_
  exact .inl ⟨rfl, rfl, Below.refl _ _⟩
attribute [local go_sem ↓] Go.wp_at_zero Go.wp_at_succ
set_option maxHeartbeats 1000000 in
theorem unpack_fits (A : Option Addr) (bs : List UInt8) (m cap : Nat) (w : World) (hl : bs.length = m) (hcap : m ≤ cap) (hmax : m ≤ 140737488355328) (hb : BAt w A bs) (ht : Tab w) (hm : 9 ≤ m) (hn : be (bs.take 4) ≤ m - 9) :
    Calls Tryd.prog 26 #[.slice A m cap] w (RetU w (unpackM bs)) := by
  have hlt := be_lt (bs.take 4)
  rw [List.length_take_of_le (by omega)] at hlt
  obtain ⟨n, hq⟩ : ∃ n, n = be (bs.take 4) := ⟨_, rfl⟩
  have hU : unpackM bs = if be ((bs.drop (5 + n)).take 4) ≠ (more 0#32 (bs.take (5 + n))).toNat then none else some (bs.getD 4 0, (bs.take (5 + n)).drop 5, bs.drop (9 + n)) := by
    unfold unpackM
    rw [if_neg (by omega), if_neg (by omega), hq]
  have HC := Lib.hid (high_any A (bs.take 4) 4 cap w (by simp; omega) (by omega) (hb.take 4))
  rw [← hq] at HC hn hlt
  clear hq
  obtain ⟨ad, rfl, hcell0⟩ := hb (by omega)
  have hcell := hcell0 4 (by omega)
  have hc1 := fun W => run_cut_h (P := Tryd.prog) 22 5 byteTy (some ad) m cap .i64 4 4 rfl (by omega) W
  have hc2 := fun W => run_cut_hm (P := Tryd.prog) 22 5 byteTy (some ad) m cap .i64 .i64 (5 + (n : Int)) (5 + (n : Int)) (5 + n) (5 + n) (by omega) (by omega) (Nat.le_refl _) (by omega) W
  have hc3 := fun W => run_cut_lhm (P := Tryd.prog) 22 5 byteTy (some ad) m cap .i64 .i64 .i64 (5 + (n : Int)) (5 + (n : Int) + 4) (5 + (n : Int) + 4) (5 + n) (9 + n) (9 + n) (by omega) (by omega) (by omega) (by omega) (Nat.le_refl _) (by omega) W
  rw [show 9 + n - (5 + n) = 4 by omega] at hc3
  have hw1 : IntKind.i64.wrap (5 + (n : Int) + 4) = 5 + (n : Int) + 4 := IntWalk.i64_in _ (by omega)
  have hd : decide ((m : Int) - 9 < (n : Int)) = false := by simp; omega
  have hB4 : BAt w (cutA (some ad) (9 + n) (5 + n)) ((bs.drop (5 + n)).take 4) := by
    have := (hb.take (9 + n)).cut (9 + n) (5 + n) (by simp; omega)
    rwa [List.drop_take, show 9 + n - (5 + n) = 4 by omega] at this
  have HH := fun N => Lib.hid (high_any (cutA (some ad) (9 + n) (5 + n)) ((bs.drop (5 + n)).take 4) 4 4 (w.drewN N) (by simp; omega) (by omega) hB4)
  have HS := fun N => Lib.hid (sum_any (some ad) (bs.take (5 + n)) (5 + n) (5 + n) (w.drewN N) (by simp; omega) (by omega) (hb.take _) ht)
  have HB := Lib.hid hb
  have HT := Lib.hid ht
  have HL := Lib.hid hl
  have HU := Lib.hid hU
  clear hb ht hl hcell0 hB4 hU
  go_enter Tryd.func26, Tryd.ntmps26
  go_wp2_with fail
  refine HC.out.mono ?_
  rintro e w1 ⟨rfl, rfl⟩
  clear HC
  go_wp2_with fail
  go_quiet (fail)
  go_wp2_with fail
  refine (HH nq).out.mono ?_
  rintro e w1 ⟨rfl, rfl⟩
  clear HH
  go_wp2_with fail
  refine (HS nq).out.mono ?_
  rintro e w1 ⟨rfl, rfl⟩
  clear HS
  have hu : U (more 0#32 (bs.take (5 + n))) = (((more 0#32 (bs.take (5 + n))).toNat : Nat) : Int) := rfl
  rw [hu]
  clear hu
  have hs : (more 0#32 (bs.take (5 + n))).toNat < 4294967296 := (more 0#32 (bs.take (5 + n))).isLt
  generalize (more 0#32 (bs.take (5 + n))).toNat = s at *
  generalize be ((bs.drop (5 + n)).take 4) = q at *
  by_cases hqs : q = s
  · have hbq : ((q : Int) != (s : Int)) = false := by simp [hqs]
    have hUs : unpackM bs = some (bs.getD 4 0, (bs.take (5 + n)).drop 5, bs.drop (9 + n)) := by rw [HU.out, if_neg (by simp [hqs])]
    have HUS := Lib.hid hUs
    clear hUs hqs HU
    have hp1 : BAt w (cutA (some ad) (5 + n) 5) ((bs.take (5 + n)).drop 5) := (HB.out.take (5 + n)).cut _ _ (by simp; omega)
    have hp2 : BAt w (cutA (some ad) cap (9 + n)) (bs.drop (9 + n)) := HB.out.cut _ _ (by have := HL.out; omega)
    have hl1 : ((bs.take (5 + n)).drop 5).length = n := by have := HL.out; simp; omega
    have hl2 : (bs.drop (9 + n)).length = m - (9 + n) := by have := HL.out; simp; omega
    have hk1 := fun W => run_cut_l (P := Tryd.prog) 22 5 byteTy (some ad) (5 + n) (5 + n) .i64 5 5 rfl (by omega) W
    rw [Nat.add_sub_cancel_left] at hk1
    have hk2 := fun W => run_cut_l (P := Tryd.prog) 22 5 byteTy (some ad) m cap .i64 (5 + (n : Int) + 4) (9 + n) (by omega) (by omega) W
    have hca : w.cell? ⟨ad.block, ad.off + 4, none⟩ = some (.int .u8 (V8 (bs.getD 4 0))) := hcell
    generalize (bs.take (5 + n)).drop 5 = pl at *
    generalize bs.drop (9 + n) = rs at *
    generalize bs.getD 4 0 = kd at *
    have HP1 := Lib.hid hp1
    have HP2 := Lib.hid hp2
    have HL1 := Lib.hid hl1
    have HL2 := Lib.hid hl2
    clear hp1 hp2 hl1 hl2 hc1 hc2 hc3 hcell HB HT HL hd
    have hi4 : (4 : Int) < (m : Int) := by omega
    have hi0 : (0 : Int) ≤ 4 := by omega
    go_wp2_with fail
    go_region_held3 (fun w' => w'.cell? ⟨ad.block, ad.off + 4, none⟩ = some (.int .u8 (V8 kd)) ∧ Below w.heap.size w w')
      (first
        | exact ⟨hca, rfl, rfl, rfl, Nat.le_refl _, fun _ _ => rfl⟩
        | exact keep1 hbB (by assumption)
        | exact keep1 hbA (by assumption))
      (first
        | (go_at_call 33
           (with_reducible refine (clone_any (cutA (some ad) (5 + n) 5) pl n _ _ HL1.out (by omega) ?_).mono ?_)
           · exact HP1.out.below (And.right (a := World.cell? _ ⟨ad.block, ad.off + 4, none⟩ = some (.int .u8 (V8 kd))) (by assumption))
           rintro e wA ⟨A1, N1, c1, rfl, hoA, hbA⟩)
        | (go_at_call 33
           (with_reducible refine (clone_any (cutA (some ad) cap (9 + n)) rs (m - (9 + n)) _ _ HL2.out (by omega) ?_).mono ?_)
           · exact HP2.out.below (And.right (a := World.cell? _ ⟨ad.block, ad.off + 4, none⟩ = some (.int .u8 (V8 kd))) (by assumption))
           rintro e wB ⟨A2, N2, c2, rfl, hoB, hbB⟩))
    have hw0 : Below w.heap.size w wA := (below_drewN (Below.refl _ _) (nq + 1) : Below w.heap.size w (w.drewN (nq + 1))).trans hbA
    have HA := Lib.hid hoA
    have HBq := Lib.hid hoB
    have HWA := Lib.hid hw0
    have HWB := Lib.hid hbB
    clear hoA hoB hbA hbB hw0
    go_wp2
    refine bodyPost_ret (results_tmp4 rfl _ _ _) rfl ?_
    have hsz := HWA.out.size
    have h1 : Own wB w.heap.size 5 A1 N1 c1 pl := (HA.out.below HWB.out).mono (Nat.le_refl _)
    have h2 : Own wB w.heap.size 5 A2 N2 c2 rs := HBq.out.mono hsz
    refine .inr ⟨kd, pl, rs, A1, N1, c1, A2, N2, c2, HUS.out, rfl, h1, h2, HWA.out.trans (HWB.out.mono hsz), ?_⟩
    rcases HA.out.form with ⟨h, _, _⟩ | ⟨g1, h, _, hg1⟩
    · exact .inl h
    · refine .inr ?_
      rw [h]
      rcases HBq.out.form with ⟨h', _, _⟩ | ⟨g2, h', hg2, _⟩
      · rw [h']; simp
      · rw [h']; simp; omega
  · have hbq : ((q : Int) != (s : Int)) = true := by simp; omega
    have hUs : unpackM bs = none := by rw [HU.out, if_pos hqs]
    have HUS := Lib.hid hUs
    clear hUs hqs HU
    go_wp2
    refine bodyPost_ret (results_tmp4 rfl _ _ _) rfl ?_
    exact .inl ⟨HUS.out, rfl, below_drewN (Below.refl _ _) nq⟩
theorem unpack_any (A : Option Addr) (bs : List UInt8) (m cap : Nat) (w : World) (hl : bs.length = m) (hcap : m ≤ cap) (hmax : m ≤ 140737488355328) (hb : BAt w A bs) (ht : Tab w) :
    Calls Tryd.prog 26 #[.slice A m cap] w (RetU w (unpackM bs)) := by
  by_cases h1 : m < 9
  · have : unpackM bs = none := by unfold unpackM; rw [if_pos (by omega)]
    rw [this]
    exact unpack_short A m cap w h1
  · by_cases h2 : m - 9 < be (bs.take 4)
    · have : unpackM bs = none := by unfold unpackM; rw [if_neg (by omega), if_pos (by omega)]
      rw [this]
      exact unpack_long A bs m cap w hl hcap hmax hb (by omega) h2
    · exact unpack_fits A bs m cap w hl hcap hmax hb ht (by omega) (by omega)
end Go.Proofs.YtamjfcconhihhaaDoor.Frame
