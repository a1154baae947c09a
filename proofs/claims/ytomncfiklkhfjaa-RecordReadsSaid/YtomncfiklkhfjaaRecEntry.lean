/- The walks of entries: how they are written. -/
import Derived.Test.YtomncfiklkhfjaaRecMay
import Derived.Test.YtomncfiklkhfjaaRecPut
import Derived.Test.YtomncfiklkhfjaaRecStr
namespace Go.Proofs.Ytomncfiklkhfjaa.Rec
open Go.RowKit Mem Crc _root_.Go.Proofs.Ytomncfiklkhfjaa.Frame
attribute [local go_sem] S8_size
theorem strTy : Try.prog.underlying 9 = some .string := Try.underlying9
theorem arrTy : Try.prog.underlying 23 = some (.array 32 5) := Try.underlying23
theorem u8_len (n : Nat) (h : n < 256) : V8 (UInt8.ofNat n) = (n : Int) := by rw [V8_ofNat]; omega
/-- Bytes written, or refused. -/
def RetW (w : World) (r : Option (List UInt8)) (e : Ending) (w' : World) : Prop :=
  Below w.heap.size w w' ∧ ((r = none ∧ e = .returned (.tuple #[.slice none 0 0, .int .i64 110])) ∨
    ∃ A N c bs, r = some bs ∧ e = .returned (.tuple #[.slice A N c, .int .i64 0]) ∧ Own w' w.heap.size 5 A N c bs)
set_option maxRecDepth 100000 in
set_option maxHeartbeats 1000000 in
theorem entry_any (id : List UInt8) (len : Int) (root : List UInt8) (h32 : root.length = 32) (w : World) (hid : id.length ≤ 140737488355000) :
    Calls Try.prog 16 #[.string (S8 id), .int .i64 len, .agg (cellsOf root)] w (RetW w (entryM id len root)) := by
  have HID := Lib.hid (Nat.le_trans hid (show 140737488355000 ≤ 140737488355328 by decide))
  have hm : entryM id len root = if (nameM id && within len 512) then some (headB id len root) else none := rfl
  have hcut := fun (g : Nat) (W : World) => run_cutAll (P := Try.prog) 23 5 32 arrTy byteTy.hi g 0 (by decide) W
  cases hn : nameM id <;> cases hl : within len 512
  case true.true =>
    rw [hn, hl] at hm
    have hlen : 0 ≤ len ∧ len ≤ 512 := by simpa [within] using hl
    obtain ⟨l, rfl⟩ := Int.eq_ofNat_of_zero_le hlen.1
    have h16 : id.length ≤ 16 := by
      unfold nameM at hn
      simp at hn
      omega
    have HM := Lib.hid hm
    have HCUT := Lib.hid hcut
    have HR := Lib.hid h32
    have HV := Lib.hid (u8_len id.length (by omega))
    have hroot := Blk.new w 23 (cellsOf root)
    have HROOT := Lib.hid hroot
    clear hm hcut h32 hid hroot
    have hl2 : ¬ ((l : Int) < 0) := by omega
    go_enter Try.func16, Try.ntmps16
    go_wp2_with (first
      | (go_at_call 59
         refine (within_any _ _ _).mono ?_
         rintro e w' ⟨rfl, rfl⟩)
      | (go_at_call 18
         refine (name_any _ HID.out _).mono ?_
         rintro e w' ⟨rfl, rfl⟩)
      | (at_builtin
         refine wpList_append_str rfl (.tmp 20) (.tmp 21) _ _ rfl strTy w.heap.size _ byteTy _ 1 1 [UInt8.ofNat id.length] rfl (Own.new (w.alloc (.cells (cellsOf root) 23)) (w.heap.size + 1) _ (by simp) (by omega) (by rw [← HV.out]; rfl) rfl (by decide)) id rfl (1 + id.length) rfl (by omega) (by simp; omega) ?_
         intro A1 c1 w1 ho1 hg1 hb1
         have HO1 := Lib.hid ho1
         have HR1 := Lib.hid ((HROOT.out.alloc _).grown hg1 (by simp [Value.ownBlock]))
         have HW1 := Lib.hid (((below_al' _).alloc (by simp) _).trans hb1)
         clear ho1 hg1 hb1))
    refine (number_any A1 _ _ c1 l 2 w1 HO1.out.len (by omega) HO1.out.bat (by omega)).mono ?_
    rintro e w2 ⟨A2, N2, c2, rfl, ho2, hb2⟩
    rw [show ∀ xs, number xs l 2 = xs ++ beB l 2 from fun xs => rfl] at ho2
    obtain rfl : N2 = 1 + id.length + 2 := by rw [← ho2.len]; simp [beB_length]; omega
    have HO2 := Lib.hid (ho2.mono HW1.out.size)
    have HR2 := Lib.hid (HR1.out.below_ hb2).bat
    have HW2 := Lib.hid (HW1.out.trans (hb2.mono HW1.out.size))
    have hcut := HCUT.out w.heap.size
    clear ho2 hb2
    go_wp2_with
      (at_builtin
       refine wpList_append_bytes rfl (.tmp 26) (.tmp 27) _ rfl w.heap.size _ byteTy A2 (1 + id.length + 2) c2 _ rfl HO2.out _ 32 32 root rfl
         HR2.out HR.out (1 + id.length + 2 + 32) rfl (by omega) HW2.out.size ?_
       intro A3 c3 w3 ho3 hg3 hb3 hA3
       have HO3 := Lib.hid ho3
       have HW3 := Lib.hid (HW2.out.trans hb3)
       clear ho3 hg3 hb3 hA3)
    go_ret2
    rw [HM.out]
    exact ⟨HW3.out, .inr ⟨_, _, _, _, rfl, rfl, HO3.out⟩⟩
  all_goals
    rw [hn, hl] at hm
    have HM := Lib.hid hm
    clear hm hcut h32 hid
    go_enter Try.func16, Try.ntmps16
    go_wp2_with (first
      | (go_at_call 59
         refine (within_any _ _ _).mono ?_
         rintro e w' ⟨rfl, rfl⟩)
      | (go_at_call 18
         refine (name_any _ HID.out _).mono ?_
         rintro e w' ⟨rfl, rfl⟩))
    go_ret2
    rw [HM.out]
    exact ⟨below_al' _, .inl ⟨rfl, rfl⟩⟩
set_option maxRecDepth 100000 in
set_option maxHeartbeats 1000000 in
theorem refEntry_any (id : List UInt8) (len : Int) (root : List UInt8) (h32 : root.length = 32) (w : World) (hid : id.length ≤ 140737488355000) :
    Calls Try.prog 17 #[.string (S8 id), .int .i64 len, .agg (cellsOf root)] w (RetW w (entryM id len root)) := by
  have HID := Lib.hid (Nat.le_trans hid (show 140737488355000 ≤ 140737488355328 by decide))
  have hm : entryM id len root = if (nameM id && within len 512) then some (headB id len root) else none := rfl
  have hcut := fun (g : Nat) (W : World) => run_cutAll (P := Try.prog) 23 5 32 arrTy byteTy.hi g 0 (by decide) W
  have hc : nameM id = false ∨ (nameM id = true ∧ len < 0) ∨ (nameM id = true ∧ ¬ len < 0 ∧ 512 < len) ∨ (nameM id = true ∧ ¬ len < 0 ∧ ¬ 512 < len) := by
    cases nameM id
    · exact .inl rfl
    · simp only [true_and]; omega
  rcases hc with h | h | h | h
  case inr.inr.inr =>
    obtain ⟨hn, ha, hb⟩ := h
    rw [hn, show within len 512 = true from decide_eq_true (by omega)] at hm
    obtain ⟨l, rfl⟩ := Int.eq_ofNat_of_zero_le (show 0 ≤ len by omega)
    have h16 : id.length ≤ 16 := by
      unfold nameM at hn
      simp at hn
      omega
    have HM := Lib.hid hm
    have HCUT := Lib.hid hcut
    have HR := Lib.hid h32
    have HV := Lib.hid (u8_len id.length (by omega))
    have HROOT := Lib.hid (Blk.new w 23 (cellsOf root))
    clear hm hcut h32 hid
    go_enter Try.func17, Try.ntmps17
    go_wp2_with (first
      | (go_at_call 19
         refine (refName_any _ HID.out _).mono ?_
         rintro e w' ⟨rfl, rfl⟩)
      | (refine wpList_str_bytes rfl (.tmp 24) _ _ _ rfl strTy byteTy id rfl (w.heap.size + 1 + 1) (by simp) ?_
         intro c0 w0 hB0 hb0
         have HB0 := Lib.hid hB0
         have HW0 := Lib.hid hb0
         clear hB0 hb0)
      | (at_builtin
         refine wpList_append_bytes rfl (.tmp 23) (.tmp 25) _ rfl w.heap.size _ byteTy _ 1 1 [UInt8.ofNat id.length] rfl ((Own.new (n := 1) (w.alloc (.cells (cellsOf root) 23)) (w.heap.size + 1) _ (by simp) (by omega) (by rw [← HV.out]; rfl) rfl (by decide)).below (HW0.out.mono (by simp))) _ id.length c0 id rfl HB0.out rfl (1 + id.length) rfl (by omega) (by have := HW0.out.size; simp at this; omega) ?_
         intro A1 c1 w1 ho1 hg1 hb1 hA1
         have HO1 := Lib.hid ho1
         have HR1 := Lib.hid (((HROOT.out.alloc _).below HW0.out (by omega)).grown hg1 (by simp [Value.ownBlock]))
         have HW1 := Lib.hid ((((below_al' _).alloc (by simp) _).trans (HW0.out.mono (by omega))).trans hb1)
         have HA1 := Lib.hid hA1
         clear ho1 hg1 hb1 hA1))
    have hz0 := HW0.out.size
    rw [show ((w.alloc (.cells (cellsOf root) 23)).alloc (.cells #[.int .u8 id.length] 5)).heap.size = w.heap.size + 2 by simp] at hz0
    refine (put_any w.heap.size A1 _ _ c1 l 2 w1 HO1.out HW1.out.size (by omega) (by omega) (by omega) (by omega)).mono ?_
    rintro e w2 ⟨A2, N2, c2, rfl, ho2, hb2, hx2⟩
    obtain rfl : N2 = 1 + id.length + 2 := by rw [← ho2.len]; simp [beB_length]; omega
    have HO2 := Lib.hid ho2
    have HR2 := Lib.hid (HR1.out.grown hx2.1 (by rcases HA1.out with h | h <;> rw [h] <;> simp <;> omega)).bat
    have HW2 := Lib.hid (HW1.out.trans hb2)
    have hcut := HCUT.out w.heap.size
    clear ho2 hb2 hx2 hz0
    go_wp2_with
      (at_builtin
       refine wpList_append_bytes rfl (.tmp 30) (.tmp 31) _ rfl w.heap.size _ byteTy A2 (1 + id.length + 2) c2 _ rfl HO2.out _ 32 32 root rfl
         HR2.out HR.out (1 + id.length + 2 + 32) rfl (by omega) HW2.out.size ?_
       intro A3 c3 w3 ho3 hg3 hb3 hA3
       have HO3 := Lib.hid ho3
       have HW3 := Lib.hid (HW2.out.trans hb3)
       clear ho3 hg3 hb3 hA3)
    go_ret2
    rw [HM.out]
    exact ⟨HW3.out, .inr ⟨_, _, _, _, rfl, rfl, HO3.out⟩⟩
  all_goals
    have hf : (nameM id && within len 512) = false := by
      unfold within
      rcases h with h
      cases hn : nameM id <;> simp [hn] at h ⊢ <;> omega
    rw [hf] at hm
    have HM := Lib.hid hm
    clear hm hcut h32 hid hf
    go_enter Try.func17, Try.ntmps17
    go_wp2_with
      (go_at_call 19
       refine (refName_any _ HID.out _).mono ?_
       rintro e w' ⟨rfl, rfl⟩)
    go_ret2
    rw [HM.out]
    exact ⟨below_al' _, .inl ⟨rfl, rfl⟩⟩
end Go.Proofs.Ytomncfiklkhfjaa.Rec
