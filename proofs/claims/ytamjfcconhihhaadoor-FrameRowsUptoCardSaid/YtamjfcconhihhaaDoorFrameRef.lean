/- The walks of the reference of layer 4, and of the laws' helpers 'same' and 'spoil'. -/
import Derived.Test.YtamjfcconhihhaaDoorFrameWalks
import Derived.WalkLawsBesides
namespace Go.Proofs.YtamjfcconhihhaaDoor.Frame
open Go.RowKit Mem Crc
theorem strTy : Tryd.prog.underlying 9 = some .string := Tryd.underlying9
set_option maxHeartbeats 400000 in
/-- 'same': are two rows of bytes one? -/
theorem same_any (A B : Option Addr) (as_ bs : List UInt8) (n m c d : Nat) (w : World) (hn : as_.length = n) (hm : bs.length = m) (ha : BAt w A as_) (hb : BAt w B bs) :
    Calls Tryd.prog 24 #[.slice A n c, .slice B m d] w fun e w' => e = .returned (.bool (decide (as_ = bs))) ∧ w = w' := by
  have h1 := run_toString (P := Tryd.prog) byteTy strTy c ha hn
  have h2 := run_toString (P := Tryd.prog) byteTy strTy d hb hm
  have h3 : ((⟨as_.toArray⟩ : ByteArray).toList == (⟨bs.toArray⟩ : ByteArray).toList) = decide (as_ = bs) := by
    rw [← beq_toListBytes]
    show (as_.toArray == bs.toArray) = _
    rw [Bool.eq_iff_iff, beq_iff_eq, decide_eq_true_iff]
    simp
  clear ha hb hn hm
  generalize (⟨as_.toArray⟩ : ByteArray) = s at *
  generalize (⟨bs.toArray⟩ : ByteArray) = t at *
  have H3 := Lib.hid h3
  clear h3
  go_enter Tryd.func24, Tryd.ntmps24
  go_wp2
  go_ret
  exact ⟨by rw [← H3.out]; rfl, rfl⟩
/-- What holds at the head of a round of the reference's Number. -/
def NumRel (w : World) (bs : List UInt8) (n size : Nat) (ov iv : Value) (wr : World) : Prop :=
  ∃ (k : Nat) (A : Option Addr) (N c : Nat), k ≤ size ∧ iv = .int .i64 ((size : Int) - 1 - (k : Int)) ∧ ov = .slice A N c ∧ Own wr w.heap.size 5 A N c (bs ++ (beB n size).take k) ∧ Below w.heap.size w wr
set_option maxHeartbeats 400000 in
theorem refNumber_any (A : Option Addr) (bs : List UInt8) (m cap : Nat) (n : Nat) (size : Int) (w : World) (hm : bs.length = m) (hl : m ≤ 140737488355320) (hb : BAt w A bs) (hn : n < 18446744073709551616) :
    Calls Tryd.prog 31 #[.slice A m cap, .int .u64 n, .int .i64 size] w (RetB w (number bs n size)) := by
  have HB := Lib.hid hb
  have HM := Lib.hid hm
  clear hb hm
  unfold number okSize
  by_cases h : 1 ≤ size ∧ size ≤ 8
  · rw [if_pos (by simpa using h)]
    obtain ⟨s, rfl⟩ := Int.eq_ofNat_of_zero_le (show 0 ≤ size by omega)
    rw [Int.toNat_natCast]
    have h1 : 1 ≤ s := by omega
    have h8 : s ≤ 8 := by omega
    clear h
    go_enter Tryd.func31, Tryd.ntmps31
    go_wp2_with
      (at_builtin
       refine wpList_append_bytes rfl (.tmp 9) (.tmp 10) _ rfl w.heap.size _ byteTy _ 0 0 [] rfl (Own.new w _ _ rfl (Nat.le_refl _) (by rfl) rfl (by decide)) _ m cap bs rfl
         (HB.out.below ((Below.refl _ _).alloc (Nat.le_refl _) _)) HM.out m (Nat.zero_add m) (by omega) (by simp) ?_
       intro A2 c2 w2 ho2 hg2 hb2 hA2
       have HO2 := Lib.hid ho2
       have HBW2 := Lib.hid (((Below.refl w.heap.size w).alloc (Nat.le_refl _) _).trans hb2)
       clear ho2 hg2 hb2 hA2)
    go_loopw [7, 8] (fun o i wr => NumRel w bs n s o i wr) (fun _ i _ => (intOf i + 1).toNat)
    case atStart => exact ⟨0, A2, m, c2, Nat.zero_le _, by simp, rfl, by simpa using HO2.out, HBW2.out⟩
    case round =>
      obtain ⟨k, A1, N, c, hk, rfl, rfl, ho, hw⟩ := hrel
      have HO := Lib.hid ho
      have HW := Lib.hid hw
      have hN : N = m + k := by
        have := ho.len
        simp [HM.out, beB_length] at this
        omega
      subst hN
      clear ho hw HO2 HBW2
      by_cases hlt : k < s
      · have hi : (s : Int) - 1 - (k : Int) = ((s - 1 - k : Nat) : Int) := by omega
        have hstep : (beB n s).take (k + 1) = (beB n s).take k ++ [UInt8.ofNat (n / 256 ^ (s - 1 - k))] := by
          rw [List.take_succ_eq_append_getElem (by rw [beB_length]; exact hlt)]
          congr 2
          have := beB_get n s k hlt
          simpa [List.getD, beB_length, hlt] using this
        have HS := Lib.hid hstep
        rw [hi]
        clear hstep
        have hj8 : s - 1 - k < 8 := by omega
        have hgoal : ((s - 1 - k : Nat) : Int) - 1 = (s : Int) - 1 - ((k + 1 : Nat) : Int) := by omega
        have HG := Lib.hid hgoal
        have hk8 : s - 1 - k + 1 ≤ 8 := by omega
        clear hi hgoal
        have hb8 := shr_byte' n (s - 1 - k)
        generalize hjq : s - 1 - k = j at *
        have HJ := Lib.hid hjq
        have Hb8 := Lib.hid hb8
        clear hjq hb8
        go_wp2_with
          (at_builtin
           refine wpList_append_bytes rfl (.tmp 25) (.tmp 31) _ rfl w.heap.size _ byteTy A1 (m + k) c _ rfl (HO.out.alloc _) _ 1 1 [UInt8.ofNat (n / 256 ^ j)] rfl
             (BAt.new _ _ _ _ (by rw [Hb8.out]; rfl)) rfl (m + k + 1) rfl (by omega) (by have := HW.out.size; simp; omega) ?_
           intro A3 c3 w3 ho3 hg3 hb3 hA3
           have HO3 := Lib.hid ho3
           have HW3 := Lib.hid ((HW.out.alloc HW.out.size _).trans hb3)
           clear ho3 hg3 hb3 hA3)
        go_roundw
        case rel => exact ⟨k + 1, A3, _, c3, hlt, by rw [HG.out], rfl, by rw [HS.out, ← List.append_assoc]; exact HO3.out, HW3.out⟩
        case measure => simp [intOf]
      · obtain rfl : k = s := by omega
        have hneg : (k : Int) - 1 - (k : Int) = -1 := by omega
        rw [hneg]
        go_wp2
        go_ret
        have ho := HO.out
        rw [List.take_of_length_le (by rw [beB_length]; exact Nat.le_refl _)] at ho
        exact ⟨_, _, _, rfl, ho, HW.out⟩
  · rw [if_neg (by simpa using h)]
    have hcase : size < 1 ∨ ¬ size < 1 ∧ 8 < size := by omega
    clear h
    rcases hcase with h1 | ⟨h1, h2⟩
    all_goals
      go_enter Tryd.func31, Tryd.ntmps31
      go_wp2_with
        (at_builtin
         refine wpList_append_bytes rfl (.tmp 9) (.tmp 10) _ rfl w.heap.size _ byteTy _ 0 0 [] rfl (Own.new w _ _ rfl (Nat.le_refl _) (by rfl) rfl (by decide)) _ m cap bs rfl
           (HB.out.below ((Below.refl _ _).alloc (Nat.le_refl _) _)) HM.out m (Nat.zero_add m) (by omega) (by simp) ?_
         intro A2 c2 w2 ho2 hg2 hb2 hA2
         have HO2 := Lib.hid ho2
         have HBW2 := Lib.hid (((Below.refl w.heap.size w).alloc (Nat.le_refl _) _).trans hb2)
         clear ho2 hg2 hb2 hA2)
      go_ret
      exact ⟨_, _, _, rfl, by simpa using HO2.out, HBW2.out⟩
attribute [local go_sem] or_be
set_option maxHeartbeats 400000 in
theorem refTake_yes (A : Option Addr) (bs : List UInt8) (m cap : Nat) (size : Nat) (w : World) (hl : bs.length = m) (hcap : m ≤ cap) (hmax : m ≤ 140737488355328) (hb : BAt w A bs) (h1 : 1 ≤ size) (h8 : size ≤ 8) (hm : size ≤ m) :
    Calls Tryd.prog 30 #[.slice A m cap, .int .i64 size] w (RetT w (be (bs.take size), bs.drop size, 0)) := by
  have hc2 := fun W => run_cut_l (P := Tryd.prog) 22 5 byteTy A m cap .i64 (size : Int) size rfl hm W
  have HB := Lib.hid hb
  have HL := Lib.hid hl
  have hlt0 : ¬ (m : Int) < (size : Int) := by omega
  clear hb hl
  go_enter Tryd.func30, Tryd.ntmps30
  go_wp2
  go_loop [7, 8] (fun r i => ∃ k : Nat, k ≤ size ∧ i = .int .i64 k ∧ r = .int .u64 (be (bs.take k) : Nat)) (fun _ i => size - (intOf i).toNat)
  case atStart => exact ⟨0, Nat.zero_le _, rfl, rfl⟩
  case round =>
    obtain ⟨k, hk, rfl, rfl⟩ := hrel
    by_cases hlt : k < size
    · have hkl : k < bs.length := by have := HL.out; omega
      have hs : be (bs.take (k + 1)) = be (bs.take k) * 256 + bs[k].toNat := by rw [List.take_succ_eq_append_getElem hkl, be_snoc]
      have hlt1 := be_lt (bs.take k)
      rw [List.length_take_of_le (by omega)] at hlt1
      have h7 : 256 ^ k ≤ 256 ^ 7 := Nat.pow_le_pow_right (by decide) (by omega)
      generalize hr : be (bs.take k) = r at *
      have H := Lib.hid hs
      clear hs hr
      obtain ⟨ad, rfl, hc⟩ := HB.out (by omega)
      have hcell : w.cell? (ad.add k) = some (.int .u8 (V8 bs[k])) := by have := hc k hkl; simpa [List.getD, hkl] using this
      clear hc hc2
      have hr7 : r < 72057594037927936 := by omega
      clear h7 hlt1
      have hv := V8_lt bs[k]
      have hkm : k < m := by omega
      go_wp2
      go_round
      case rel => exact ⟨k + 1, hlt, by go_num, by rw [H.out]; simp⟩
      case measure => simp [intOf]; omega
    · obtain rfl : k = size := by omega
      have HB2 := Lib.hid (((HB.out.below ((Below.refl w.heap.size w).alloc (Nat.le_refl _) (.cells #[] 5))).cut cap k (by have := HL.out; omega)))
      have hdl : (bs.drop k).length = m - k := by have := HL.out; simp; omega
      have HD := Lib.hid hdl
      clear hdl
      go_wp2_with
        (at_builtin
         refine wpList_append_bytes rfl (.tmp 33) (.tmp 36) _ rfl w.heap.size _ byteTy _ 0 0 [] rfl (Own.new w _ _ rfl (Nat.le_refl _) (by rfl) rfl (by decide)) _ (m - k) (cap - k) (bs.drop k) rfl
           HB2.out HD.out (m - k) (Nat.zero_add _) (by omega) (by simp) ?_
         intro A2 c2 w2 ho2 hg2 hb2 hA2
         have HO2 := Lib.hid ho2
         have HBW2 := Lib.hid (((Below.refl w.heap.size w).alloc (Nat.le_refl _) _).trans hb2)
         clear ho2 hg2 hb2 hA2)
      go_ret3
      exact ⟨_, _, _, rfl, by simpa using HO2.out, HBW2.out⟩
theorem refTake_any (A : Option Addr) (bs : List UInt8) (m cap : Nat) (size : Int) (w : World) (hl : bs.length = m) (hcap : m ≤ cap) (hmax : m ≤ 140737488355328) (hb : BAt w A bs) :
    Calls Tryd.prog 30 #[.slice A m cap, .int .i64 size] w (RetT w (takeM bs size)) := by
  unfold takeM okSize
  by_cases h : 1 ≤ size ∧ size ≤ 8
  · rw [if_pos (by simpa using h)]
    by_cases hs : (bs.length : Int) < size
    · rw [if_pos hs]
      have h1 := h.1
      have h8 := h.2
      have hms : (m : Int) < size := by omega
      clear hs h hb hl
      go_enter Tryd.func30, Tryd.ntmps30
      go_wp2
      go_ret3
      exact ⟨_, _, _, rfl, Own.nil_ _ _ _, Below.refl _ _⟩
    · rw [if_neg hs]
      obtain ⟨s, rfl⟩ := Int.eq_ofNat_of_zero_le (show 0 ≤ size by omega)
      rw [Int.toNat_natCast]
      exact refTake_yes A bs m cap s w hl hcap hmax hb (by omega) (by omega) (by omega)
  · rw [if_neg (by simpa using h)]
    have hcase : size < 1 ∨ ¬ size < 1 ∧ 8 < size := by omega
    clear h hb hl
    rcases hcase with h1 | ⟨h1, h2⟩
    all_goals
      go_enter Tryd.func30, Tryd.ntmps30
      go_wp2
      go_ret3
      exact ⟨_, _, _, rfl, Own.nil_ _ _ _, Below.refl _ _⟩
set_option maxHeartbeats 800000 in
theorem refPack_any (kind : UInt8) (A : Option Addr) (bs : List UInt8) (m cap : Nat) (w : World) (hm : bs.length = m) (hl : m ≤ 140737488355000) (hb : BAt w A bs) :
    Calls Tryd.prog 23 #[.int .u8 (V8 kind), .slice A m cap] w (RetB w (pack kind bs)) := by
  have HB := Lib.hid hb
  have HM := Lib.hid hm
  clear hb hm
  go_enter Tryd.func23, Tryd.ntmps23
  go_wp2_with fail
  refine (refNumber_any _ [] 0 0 m 4 _ rfl (by omega) (BAt.nil_ _ _) (by omega)).mono ?_
  rintro e w1 ⟨A1, N1, c1, rfl, ho, hbw⟩
  rw [show number [] m 4 = [] ++ beB m 4 from rfl] at ho
  obtain rfl : N1 = 4 := by rw [← ho.len]; simp [beB_length]
  have HO1 := Lib.hid ho
  have HW1 := Lib.hid hbw
  clear hbw ho
  go_wp2_with (first
    | (at_builtin
       refine wpList_append_bytes rfl (.tmp 10) (.tmp 12) _ rfl w.heap.size _ byteTy A1 4 c1 _ rfl (HO1.out.alloc _) _ 1 1 [kind] rfl
         (BAt.new _ _ _ _ (by rfl)) rfl 5 rfl (by omega) (by have := HW1.out.size; simp; omega) ?_
       intro A2 c2 w2 ho2 hg2 hb2 hA2
       have HO2 := Lib.hid ho2
       have HW2 := Lib.hid ((HW1.out.alloc HW1.out.size _).trans hb2)
       clear ho2 hg2 hb2 hA2)
    | (at_builtin
       refine wpList_append_bytes rfl (.tmp 14) (.tmp 15) _ rfl w.heap.size _ byteTy A2 5 c2 _ rfl HO2.out A m cap bs rfl
         (HB.out.below HW2.out) HM.out (5 + m) rfl (by omega) HW2.out.size ?_
       intro A3 c3 w3 ho3 hg3 hb3 hA3
       have HO3 := Lib.hid ho3
       have HW3 := Lib.hid (HW2.out.trans hb3)
       clear ho3 hg3 hb3 hA3))
  have hhead : [] ++ beB m 4 ++ [kind] ++ bs = head kind bs := by have := HM.out; subst this; simp [head]
  have HH := Lib.hid hhead
  clear hhead
  rw [HH.out] at HO3
  refine (refSum_any _ (head kind bs) _ _ _ HO3.out.len (by omega) HO3.out.bat).mono ?_
  rintro e w4 ⟨rfl, rfl⟩
  have hu : U (more 0#32 (head kind bs)) = (((more 0#32 (head kind bs)).toNat : Nat) : Int) := rfl
  rw [hu]
  have hlt : (more 0#32 (head kind bs)).toNat < 4294967296 := (more 0#32 (head kind bs)).isLt
  have hpk : pack kind bs = head kind bs ++ beB (more 0#32 (head kind bs)).toNat 4 := rfl
  clear hu
  generalize (more 0#32 (head kind bs)).toNat = s at *
  have HPK := Lib.hid hpk
  clear hpk
  go_wp2_with fail
  refine (refNumber_any A3 (head kind bs) (5 + m) c3 s 4 _ HO3.out.len (by omega) HO3.out.bat (by omega)).mono ?_
  rintro e w5 ⟨A5, N5, c5, rfl, ho, hbw⟩
  rw [show number (head kind bs) s 4 = head kind bs ++ beB s 4 from rfl] at ho
  have hsz := HW3.out.size
  have HO5 := Lib.hid (ho.mono hsz)
  have HW5 := Lib.hid (HW3.out.trans (hbw.mono hsz))
  clear hbw ho
  go_wp2_with fail
  go_ret
  exact ⟨_, _, _, rfl, by rw [HPK.out]; exact HO5.out, HW5.out⟩
/-- What the reference's Unpack gives back. -/
def RetV (w : World) (r : Option (UInt8 × List UInt8 × List UInt8)) (e : Ending) (w' : World) : Prop :=
  (r = none ∧ e = .returned (.tuple #[.int .u8 0, .slice none 0 0, .slice none 0 0, .int .i64 40]) ∧ Below w.heap.size w w') ∨
  ∃ k p q A N c A' N' c', r = some (k, p, q) ∧ e = .returned (.tuple #[.int .u8 (V8 k), .slice A N c, .slice A' N' c', .int .i64 0]) ∧
    Own w' w.heap.size 5 A N c p ∧ Own w' w.heap.size 5 A' N' c' q ∧ Below w.heap.size w w'
set_option maxHeartbeats 800000 in
theorem refUnpack_short (A : Option Addr) (m cap : Nat) (w : World) (hm : m < 9) :
    Calls Tryd.prog 27 #[.slice A m cap] w (RetV w none) := by
  go_enter Tryd.func27, Tryd.ntmps27
  go_wp2
  refine bodyPost_ret (results_tmp4 rfl _ _ _) rfl ?_
  exact .inl ⟨rfl, rfl, Below.refl _ _⟩
set_option maxHeartbeats 800000 in
theorem refUnpack_long (A : Option Addr) (bs : List UInt8) (m cap : Nat) (w : World) (hl : bs.length = m) (hcap : m ≤ cap) (hmax : m ≤ 140737488355328) (hb : BAt w A bs) (hm : 9 ≤ m) (hn : m - 9 < be (bs.take 4)) :
    Calls Tryd.prog 27 #[.slice A m cap] w (RetV w none) := by
  have HC := Lib.hid (refTake_yes A bs m cap 4 w hl hcap hmax hb (by omega) (by omega) (by omega))
  have hlt := be_lt (bs.take 4)
  rw [List.length_take_of_le (by omega)] at hlt
  clear hb
  generalize be (bs.take 4) = n at *
  have hd : decide ((m : Int) - 9 < (n : Int)) = true := by simp; omega
  go_enter Tryd.func27, Tryd.ntmps27
  go_wp2_with fail
  refine HC.out.mono ?_
  rintro e w1 ⟨A1, N1, c1, rfl, ho, hbw⟩
  have HW := Lib.hid hbw
  clear HC ho hbw
  go_wp2
  refine bodyPost_ret (results_tmp4 rfl _ _ _) rfl ?_
  exact .inl ⟨rfl, rfl, HW.out⟩
set_option maxHeartbeats 1000000 in
theorem refUnpack_fits (A : Option Addr) (bs : List UInt8) (m cap : Nat) (w : World) (hl : bs.length = m) (hcap : m ≤ cap) (hmax : m ≤ 140737488355328) (hb : BAt w A bs) (hm : 9 ≤ m) (hn : be (bs.take 4) ≤ m - 9) :
    Calls Tryd.prog 27 #[.slice A m cap] w (RetV w (unpackM bs)) := by
  have hlt := be_lt (bs.take 4)
  rw [List.length_take_of_le (by omega)] at hlt
  obtain ⟨n, hq⟩ : ∃ n, n = be (bs.take 4) := ⟨_, rfl⟩
  have hU : unpackM bs = if be ((bs.drop (5 + n)).take 4) ≠ (more 0#32 (bs.take (5 + n))).toNat then none else some (bs.getD 4 0, (bs.take (5 + n)).drop 5, bs.drop (9 + n)) := by
    unfold unpackM
    rw [if_neg (by omega), if_neg (by omega), hq]
  have HC := Lib.hid (refTake_yes A bs m cap 4 w hl hcap hmax hb (by omega) (by omega) (by omega))
  rw [← hq] at HC hn hlt
  clear hq
  obtain ⟨ad, rfl, hcell0⟩ := hb (by omega)
  have hcell := hcell0 4 (by omega)
  have hc1 := fun W => run_cut_l (P := Tryd.prog) 22 5 byteTy (some ad) m cap .i64 (5 + (n : Int)) (5 + n) (by omega) (by omega) W
  have hc2 := fun W => run_cut_h (P := Tryd.prog) 22 5 byteTy (some ad) m cap .i64 (5 + (n : Int)) (5 + n) (by omega) (by omega) W
  have hc3 := fun W => run_cut_lh (P := Tryd.prog) 22 5 byteTy (some ad) m cap .i64 .i64 5 (5 + (n : Int)) 5 (5 + n) rfl (by omega) (by omega) (by omega) W
  rw [Nat.add_sub_cancel_left] at hc3
  have hd : decide ((m : Int) - 9 < (n : Int)) = false := by simp; omega
  have HB := Lib.hid hb
  have HL := Lib.hid hl
  have HU := Lib.hid hU
  have HX := Lib.hid hcell
  clear hb hl hcell0 hU hcell
  go_enter Tryd.func27, Tryd.ntmps27
  go_wp2_with fail
  refine HC.out.mono ?_
  rintro e w1 ⟨A1, N1, c1, rfl, ho, hbw⟩
  have HW := Lib.hid hbw
  clear HC ho hbw
  go_wp2_with fail
  refine (refTake_yes (cutA (some ad) cap (5 + n)) (bs.drop (5 + n)) (m - (5 + n)) (cap - (5 + n)) 4 w1 (by have := HL.out; simp; omega) (by omega) (by omega) ((HB.out.below HW.out).cut _ _ (by have := HL.out; omega)) (by omega) (by omega) (by omega)).mono ?_
  rintro e w2 ⟨A2, N2, c2, rfl, ho, hbw⟩
  have HO2 := Lib.hid ho
  have HW2 := Lib.hid (HW.out.trans (hbw.mono HW.out.size))
  have hsz1 := HW.out.size
  clear ho hbw HW
  dsimp only at HO2 ⊢
  go_wp2_with fail
  refine (refSum_any (some ad) (bs.take (5 + n)) (5 + n) cap w2 (by have := HL.out; simp; omega) (by omega) ((HB.out.below HW2.out).take _)).mono ?_
  rintro e w3 ⟨rfl, rfl⟩
  have hu : U (more 0#32 (bs.take (5 + n))) = (((more 0#32 (bs.take (5 + n))).toNat : Nat) : Int) := rfl
  rw [hu]
  clear hu
  have hs : (more 0#32 (bs.take (5 + n))).toNat < 4294967296 := (more 0#32 (bs.take (5 + n))).isLt
  have hrest : (bs.drop (5 + n)).drop 4 = bs.drop (9 + n) := by rw [List.drop_drop]; congr 1; omega
  rw [hrest] at HO2
  generalize (more 0#32 (bs.take (5 + n))).toNat = s at *
  generalize be ((bs.drop (5 + n)).take 4) = q at *
  by_cases hqs : q = s
  · have hbq : ((q : Int) != (s : Int)) = false := by simp [hqs]
    have hUs : unpackM bs = some (bs.getD 4 0, (bs.take (5 + n)).drop 5, bs.drop (9 + n)) := by rw [HU.out, if_neg (by simp [hqs])]
    have hp1 : BAt w (cutA (some ad) cap 5) ((bs.take (5 + n)).drop 5) := (HB.out.take (5 + n)).cut _ _ (by simp; omega)
    have hl1 : ((bs.take (5 + n)).drop 5).length = n := by have := HL.out; simp; omega
    have hca0 : w.cell? ⟨ad.block, ad.off + 4, none⟩ = some (.int .u8 (V8 (bs.getD 4 0))) := HX.out
    have hca : w2.cell? ⟨ad.block, ad.off + 4, none⟩ = some (.int .u8 (V8 (bs.getD 4 0))) := (HW2.out.cell (p := ⟨ad.block, ad.off + 4, none⟩) (cell_lt hca0)).trans hca0
    generalize (bs.take (5 + n)).drop 5 = pl at *
    generalize bs.drop (9 + n) = rs at *
    generalize bs.getD 4 0 = kd at *
    have HP1 := Lib.hid hp1
    have HL1 := Lib.hid hl1
    have HUS := Lib.hid hUs
    clear hp1 hl1 hUs hqs HU hc1 hc2 HB HL hd HX hca0
    have hi4 : (4 : Int) < (m : Int) := by omega
    have hi0 : (0 : Int) ≤ 4 := by omega
    have hw2 := HW2.out
    go_wp2_with fail
    go_region_held3 (fun w' => w'.cell? ⟨ad.block, ad.off + 4, none⟩ = some (.int .u8 (V8 kd)) ∧ Below w2.heap.size w2 w')
      (first
        | exact ⟨hca, rfl, rfl, rfl, Nat.le_refl _, fun _ _ => rfl⟩
        | exact keep2 hca hbA (by assumption)
        | exact keep1 ((Below.refl _ _).alloc (Nat.le_refl _) _) (by assumption))
      ((refine step_append_bytes (by rfl) (.tmp 49) (.tmp 52) _ (by rfl) w2.heap.size _ byteTy _ 0 0 [] (by rfl) (by exact (Own.new w2 _ _ rfl (Nat.le_refl _) (by rfl) rfl (by decide)).drew) _ n _ pl (by rfl) (by exact HP1.out.below ((hw2.alloc hw2.size _).drew)) HL1.out n (Nat.zero_add _) (by omega) (by simp) ?_; intro A4 c4 w4 ho4 hg4 hbA hA4))
    have HO4 := Lib.hid ho4
    have HW4 := Lib.hid (((Below.refl w2.heap.size w2).alloc (Nat.le_refl _) (.cells #[] 5)).drew.trans hbA)
    clear ho4 hg4 hbA hA4
    go_wp2
    refine bodyPost_ret (results_tmp4 rfl _ _ _) rfl ?_
    have hsz := HW2.out.size
    have h1 : Own w4 w.heap.size 5 A4 n c4 pl := by have := HO4.out.mono hsz; simpa using this
    have h2 : Own w4 w.heap.size 5 A2 N2 c2 rs := (HO2.out.below HW4.out).mono hsz1
    exact .inr ⟨kd, pl, rs, A4, n, c4, A2, N2, c2, HUS.out, rfl, h1, h2, HW2.out.trans (HW4.out.mono hsz)⟩
  · have hbq : ((q : Int) != (s : Int)) = true := by simp; omega
    have hUs : unpackM bs = none := by rw [HU.out, if_pos hqs]
    have HUS := Lib.hid hUs
    clear hUs hqs HU
    go_wp2
    refine bodyPost_ret (results_tmp4 rfl _ _ _) rfl ?_
    exact .inl ⟨HUS.out, rfl, HW2.out⟩
theorem refUnpack_any (A : Option Addr) (bs : List UInt8) (m cap : Nat) (w : World) (hl : bs.length = m) (hcap : m ≤ cap) (hmax : m ≤ 140737488355328) (hb : BAt w A bs) :
    Calls Tryd.prog 27 #[.slice A m cap] w (RetV w (unpackM bs)) := by
  by_cases h1 : m < 9
  · have : unpackM bs = none := by unfold unpackM; rw [if_pos (by omega)]
    rw [this]
    exact refUnpack_short A m cap w h1
  · by_cases h2 : m - 9 < be (bs.take 4)
    · have : unpackM bs = none := by unfold unpackM; rw [if_neg (by omega), if_pos (by omega)]
      rw [this]
      exact refUnpack_long A bs m cap w hl hcap hmax hb (by omega) h2
    · exact refUnpack_fits A bs m cap w hl hcap hmax hb (by omega) (by omega)
/-- What holds at the head of a round of 'spoil'. -/
def SpoilRel (w : World) (base : Nat) (A : Option Addr) (n c : Nat) (iv : Value) (wr : World) : Prop :=
  ∃ (k : Nat) (ds : List UInt8), k ≤ n ∧ iv = .int .i64 k ∧ Own wr base 5 A n c ds ∧ w.grownBy wr (Value.slice A n c).ownBlock
set_option maxHeartbeats 400000 in
/-- 'spoil': it writes into the slice's own block, and lays new ones. -/
theorem spoil_any (A : Option Addr) (bs : List UInt8) (n c base : Nat) (w : World) (ho : Own w base 5 A n c bs) (hl : n ≤ 140737488355327) (hbase : base ≤ w.heap.size) :
    Calls Tryd.prog 25 #[.slice A n c] w fun e w' => e = .returned (.tuple #[]) ∧ w.grownBy w' (Value.slice A n c).ownBlock := by
  have HO := Lib.hid ho
  clear ho
  go_enter Tryd.func25, Tryd.ntmps25
  go_wp2
  go_loopw [2] (fun i wr => SpoilRel w base A n c i wr) (fun i _ => n - (intOf i).toNat)
  case atStart => exact ⟨0, bs, Nat.zero_le _, rfl, HO.out, World.grownBy.refl _ _⟩
  case round =>
    obtain ⟨k, ds, hk, rfl, ho, hg⟩ := hrel
    have HD := Lib.hid ho
    have HG := Lib.hid hg
    clear ho hg
    by_cases hlt : k < n
    · obtain ⟨g, rfl⟩ : ∃ g, A = some ⟨g, 0, none⟩ := by
        rcases HD.out.form with ⟨_, h, _⟩ | ⟨g, h, _, _⟩
        · omega
        · exact ⟨g, h⟩
      have hcell := HD.out.at_ hlt
      have hfree := HD.out.free k
      go_wp2
      go_roundw
      case rel => exact ⟨k + 1, _, hlt, by go_num, HD.out.setByte k 99, HG.out.trans (grownBy_setCell _ _ _ _ (by simp [Value.ownBlock]))⟩
      case measure => simp [intOf]; omega
    · obtain rfl : k = n := by omega
      have hsz := HG.out.size
      go_wp2_with
        (at_builtin
         refine wpList_append_bytes rfl (.tmp 13) (.tmp 14) _ rfl base _ byteTy A k c _ rfl (HD.out.alloc _) _ 1 1 [98] rfl
           (BAt.new _ _ _ _ (by rfl)) rfl (k + 1) rfl (by omega) (by simp; omega) ?_
         intro A3 c3 w3 ho3 hg3 hb3 hA3
         obtain ⟨g, rfl⟩ : ∃ g, A3 = some ⟨g, 0, none⟩ := by
           rcases ho3.form with ⟨_, h, _⟩ | ⟨g, h, _, _⟩
           · omega
           · exact ⟨g, h⟩
         have hcell := ho3.at_ (k := k) (by omega)
         have hfree := ho3.free k
         have HO3 := Lib.hid ho3
         have HG3 := Lib.hid hg3
         have HA3 := Lib.hid hA3
         clear ho3 hg3 hb3 hA3)
      go_end0
      have hz : w.heap.size ≤ (wr.alloc (.cells #[Value.int .u8 98] 5)).heap.size := by simp; omega
      refine ⟨rfl, grown_set ((grown_alloc HG.out _).trans HG3.out) ?_ _⟩
      rcases HA3.out with h | h
      · left; rw [← h]; rfl
      · right
        injection h with h; injection h with h
        rw [h]; exact hz
end Go.Proofs.YtamjfcconhihhaaDoor.Frame
