/- The law of there and back: it returns true for any record, and leaves all that was there. -/
import Derived.Test.YtomncfiklkhfjaaRecWrites
namespace Go.Proofs.Ytomncfiklkhfjaa.Rec
open Go.RowKit Mem Crc _root_.Go.Proofs.Ytomncfiklkhfjaa.Frame
attribute [local go_sem] S8_size S8_toList R.size_ R.c0 R.c1 R.c34 R.c35 R.c36 R.c37 R.c38 R.g0 R.g1 R.g34 R.g35 R.g36 R.g37 R.g38
theorem enc_entry {r : R} {b : List UInt8} (h : r.encode = some b) : ∃ eb, entryM r.id r.len r.root = some eb ∧ readM eb = some (r.id, r.len.toNat, r.root) ∧ 0 ≤ r.len ∧ eb.length ≤ 100 := by
  unfold R.encode at h
  split at h
  · rename_i hm
    obtain ⟨hn, hl0, hl1, _⟩ := (head_iff r).1 (may_true hm).1
    have h16 := name_len hn
    have he : entryM r.id r.len r.root = some (headB r.id r.len r.root) := by
      unfold entryM
      rw [if_pos (by rw [hn]; unfold within; simp; omega)]
    exact ⟨_, he, entry_read r.h32 he, hl0, by simp [headB, beB_length, r.h32]; omega⟩
  · cases h
set_option maxRecDepth 100000 in
set_option maxHeartbeats 8000000 in
theorem lawBack (r : R) (C : Option Addr) (cap : Nat) (w : World) (hid : r.id.length ≤ 140737488355000) (hcl : r.copies.length ≤ 140737488355328) (hC : CAt w C r.copies) :
    Calls Try.prog 6 #[.agg (r.cells C cap).toArray] w fun e w' => e = .returned (.bool true) ∧ Below w.heap.size w w' := by
  have HID := Lib.hid hid
  have HCL := Lib.hid hcl
  have HC := Lib.hid hC
  have HG := Lib.hid (Blk.new w 26 (r.cells C cap).toArray)
  clear hid hcl hC
  go_enter Try.func6, Try.ntmps6
  go_wp2_with fail
  refine (shown_any _).mono ?_
  rintro e w1 ⟨rfl, hb1⟩
  have HW1 := Lib.hid (below_al hb1)
  have HG1 := Lib.hid (HG.out.below_ hb1)
  have HC1 := Lib.hid (HC.out.below (below_al hb1))
  clear hb1
  go_wp2_with
    (refine wpList_load_mid rfl 26 (.tmp 1) rfl w.heap.size 0 rfl (r.cells C cap) _ (rangeRec HG1.out) Try.underlying26 rfl (by rw [R.size_]; kernel_rfl) ?_
     go_wp2_with fail)
  refine (encode_any r C cap w1 HID.out HCL.out HC1.out).mono ?_
  intro e w2 hr
  obtain ⟨hb2, A2, N2, c2, rfl, ho2⟩ := hr.one
  have HW2 := Lib.hid (HW1.out.trans (hb2.mono HW1.out.size))
  have HG2 := Lib.hid (HG1.out.below_ hb2)
  have HC2 := Lib.hid (HC1.out.below hb2)
  have HO2 := Lib.hid ho2
  clear hr hb2 ho2
  go_wp2_with
    (refine wpList_load_mid rfl 26 (.tmp 1) rfl w.heap.size 0 rfl (r.cells C cap) _ (rangeRec HG2.out) Try.underlying26 rfl (by rw [R.size_]; kernel_rfl) ?_
     go_wp2_with fail)
  refine (refEncode_any r C cap w2 HID.out HCL.out HC2.out).mono ?_
  intro e w3 hr
  obtain ⟨hb3, A3, N3, c3, rfl, _⟩ := hr.one
  have HW3 := Lib.hid (HW2.out.trans (hb3.mono HW2.out.size))
  have HG3 := Lib.hid (HG2.out.below_ hb3)
  have HC3 := Lib.hid (HC2.out.below hb3)
  have HO3 := Lib.hid (HO2.out.below hb3)
  clear hr hb3
  cases he : r.encode with
  | none =>
    have ho := HO3.out
    rw [he] at ho
    obtain rfl : N2 = 0 := by rw [← ho.len]; rfl
    have hc0 : codeD (none : Option (List UInt8)) = 110 := rfl
    rw [hc0]
    clear he ho hc0
    go_wp2_with fail
    go_ret
    exact ⟨rfl, HW3.out⟩
  | some b =>
    have ho := HO3.out
    rw [he, Option.getD_some] at ho
    have HO4 := Lib.hid ho
    obtain ⟨hdec, h160⟩ := enc_dec he
    obtain ⟨eb, hen, hrd, hl0, hel⟩ := enc_entry he
    have HDE := Lib.hid hdec
    have HEN := Lib.hid hen
    have HRD := Lib.hid hrd
    obtain ⟨l, hl⟩ := Int.eq_ofNat_of_zero_le hl0
    have HL := Lib.hid hl
    have hn2 : N2 ≤ 160 := by rw [← ho.len]; exact h160
    have hc0 : codeD (some b) = 0 := rfl
    rw [hc0]
    clear he ho hc0 hdec hen hrd hl0 hl HO3 h160
    go_wp2_with fail
    refine (decode_any A2 b N2 c2 w3 HO4.out.bat HO4.out.len HO4.out.cap_le.1 (by omega)).mono ?_
    rw [HDE.out]
    intro e w4 hr
    obtain ⟨hb4, D, capD, rfl, ho4⟩ := hr.one
    rw [Option.getD_some] at ho4
    rw [Option.getD_some]
    have HW4 := Lib.hid (HW3.out.trans (hb4.mono HW3.out.size))
    have HG4 := Lib.hid (HG3.out.below_ hb4)
    have HC4 := Lib.hid (HC3.out.below hb4)
    have HD4 := Lib.hid ho4
    have hl4 := HG4.out.lt
    have hc0 : codeD (some r) = 0 := rfl
    rw [hc0]
    clear hr hb4 ho4 hc0
    go_wp2_with
      (refine wpList_store_whole rfl 26 (.tmp 8) (.tmp 43) rfl w4.heap.size 26 (zeroR.cells none 0) (r.cells D capD) rfl rfl (Blk.new w4 _ _) (by rw [R.size_, R.size_]) (by rw [R.size_]; kernel_rfl) (rec_one _ _ _) ?_
       intro w5 hb5 hg5 hz5
       have HZ5 := Lib.hid (below_set_new HW4.out hg5)
       have HG5 := Lib.hid (HG4.out.below_ HZ5.out)
       have HH5 := Lib.hid hb5
       clear hb5 hg5 hz5
       go_wp2_with
         (refine wpList_load_mid rfl 26 (.tmp 8) rfl w4.heap.size 0 rfl _ _ (rangeRec HH5.out) Try.underlying26 rfl (by rw [R.size_]; kernel_rfl) ?_
          refine wpList_load_mid rfl 26 (.tmp 1) rfl w.heap.size 0 rfl _ _ (rangeRec HG5.out) Try.underlying26 rfl (by rw [R.size_]; kernel_rfl) ?_
          go_wp2_with fail))
    have HW5 := Lib.hid (HW4.out.trans (HZ5.out.mono HW4.out.size))
    have hsm := same_any r r D C capD cap w5 HCL.out HCL.out (own_cat (HD4.out.below HZ5.out)) (HC4.out.below HZ5.out)
    rw [same_self] at hsm
    refine hsm.mono ?_
    clear hsm
    rintro e w6 ⟨rfl, hb6⟩
    have HW6 := Lib.hid (HW5.out.trans (hb6.mono HW5.out.size))
    have HG6 := Lib.hid (HG5.out.below_ hb6)
    clear hb6 HD4 HH5 HG5
    obtain ⟨h0, h1, _, _, _, _, _⟩ := RAt.of_blk HG6.out
    go_wp2_with
      (refine wpList_load_mid rfl 23 (.tmp 53) rfl w.heap.size 2 rfl (r.root.map B8) _ (rootRange HG6.out) arrTy rfl (by rw [hash_size]; simp [r.h32]) ?_
       go_wp2_with fail)
    refine (entry_any r.id r.len r.root r.h32 w6 HID.out).mono ?_
    rw [HEN.out]
    intro e w7 hr
    obtain ⟨hb7, A7, N7, c7, rfl, ho7⟩ := hr.one
    rw [Option.getD_some] at ho7
    have HW7 := Lib.hid (HW6.out.trans (hb7.mono HW6.out.size))
    have HG7 := Lib.hid (HG6.out.below_ hb7)
    have HO7 := Lib.hid ho7
    have hn7 : N7 ≤ 100 := by rw [← ho7.len]; exact hel
    have hc0 : codeD (some eb) = 0 := rfl
    rw [hc0]
    clear hr hb7 ho7 h0 h1 hc0
    go_wp2_with fail
    refine (read_any A7 eb N7 c7 w7 HO7.out.bat HO7.out.len HO7.out.cap_le.1 (by omega)).mono ?_
    rw [HRD.out]
    rintro e w8 ⟨hb8, ⟨h, _⟩ | ⟨_, _, _, h, h32, rfl⟩⟩
    · cases h
    injection h with h
    injection h with e1 h
    injection h with e2 e3
    subst e1 e2 e3
    have HW8 := Lib.hid (HW7.out.trans (hb8.mono HW7.out.size))
    have HG8 := Lib.hid (HG7.out.below_ hb8)
    have hl8 := HG8.out.lt
    have hln : ((r.len.toNat : Nat) : Int) = r.len := by rw [HL.out]; rfl
    rw [hln]
    clear hb8 h32 hln
    go_wp2_with
      (refine wpList_store_whole rfl 23 (.tmp 15) (.tmp 63) rfl w8.heap.size 23 ((List.replicate 32 (0 : UInt8)).map B8) (r.root.map B8) rfl rfl (Blk.new w8 _ _) (by simp [r.h32]) (by rw [hash_size]; simp [r.h32]) (cells_one _) ?_
       intro w9 hb9 hg9 hz9
       have HZ9 := Lib.hid (below_set_new HW8.out hg9)
       have HG9 := Lib.hid (HG8.out.below_ HZ9.out)
       have HH9 := Lib.hid hb9
       clear hb9 hg9 hz9
       obtain ⟨h0, h1, _, _, _, _, _⟩ := RAt.of_blk HG9.out
       go_wp2_with
         (refine wpList_load_mid_g (op := ⟨some 96, _, _, _, _, _⟩) (by rfl) 23 (.tmp 15) rfl w8.heap.size 0 rfl (r.root.map B8) _ (blk_range HH9.out) arrTy rfl (by rw [hash_size]; simp [r.h32]) ?_
          go_wp2_with
            (refine wpList_load_mid_g (op := ⟨some 98, _, _, _, _, _⟩) (by rfl) 23 (.tmp 97) rfl w.heap.size 2 rfl (r.root.map B8) _ (rootRange HG9.out) arrTy rfl (by rw [hash_size]; simp [r.h32]) ?_
             refine wpList_eql_bytes (op := ⟨some 99, _, _, _, _, _⟩) (by rfl) 23 5 32 (.tmp 96) (.tmp 98) _ rfl r.root r.root rfl rfl arrTy Try.underlying5 hash_unit r.h32 r.h32 hash_guard ?_
             go_wp2_with fail
             go_ret
             exact ⟨rfl, HW8.out.trans (HZ9.out.mono HW8.out.size)⟩)))
end Go.Proofs.Ytomncfiklkhfjaa.Rec
