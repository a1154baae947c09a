/- 'munimentlaw11.shown' holds: the document's examples of records. -/
import Derived.Test.YtomncfiklkhfjaaRecSame
namespace Go.Proofs.Ytomncfiklkhfjaa.Rec
open Go.RowKit Mem Crc _root_.Go.Proofs.Ytomncfiklkhfjaa.Frame
attribute [local go_sem] S8_size
def exR : R := ⟨[97], 3, List.replicate 32 0, 0, 7, true, false, [⟨3, 9, 2, true⟩], by simp⟩
def exB : List UInt8 := [1, 97, 0, 3] ++ List.replicate 32 0 ++ [0, 0, 0, 0, 0, 0, 0, 0, 0, 7, 1, 1, 3, 0, 9, 2, 1]
theorem ex_entry : entryM [97] 3 (List.replicate 32 0) = some ([1, 97, 0, 3] ++ List.replicate 32 0) := by decide +kernel
theorem ex_enc : exR.encode = some exB := by decide +kernel
theorem ex_dec : decodeM exB = some exR := by rfl
theorem ex_no : decodeM (exB ++ [0]) = none := by rfl
theorem ex_name : nameM [97, 45, 49, 46, 120] = true := by decide +kernel
theorem ex_name0 : nameM [65] = false := by decide +kernel
theorem name5 (w : World) : Calls Try.prog 18 #[.string ⟨#[97, 45, 49, 46, 120]⟩] w fun e w' => e = .returned (.bool true) ∧ w' = w := by
  have h := name_any [97, 45, 49, 46, 120] (by decide) w
  rw [ex_name] at h
  exact h
theorem name1 (w : World) : Calls Try.prog 18 #[.string ⟨#[65]⟩] w fun e w' => e = .returned (.bool false) ∧ w' = w := by
  have h := name_any [65] (by decide) w
  rw [ex_name0] at h
  exact h
theorem same_self (a : R) : sameM a a = true := (sameM_iff a a).2 rfl
set_option maxRecDepth 100000 in
set_option maxHeartbeats 4000000 in
theorem shown_any (w : World) : Calls Try.prog 13 #[] w fun e w' => e = .returned (.bool true) ∧ Below w.heap.size w w' := by
  go_enter Try.func13, Try.ntmps13
  go_wp2_with fail
  refine (entry_any [97] 3 (List.replicate 32 0) (by simp) _ (by simp)).mono ?_
  rintro e w1 ⟨hb1, ⟨h, _⟩ | ⟨A1, N1, c1, bs1, h, rfl, ho1⟩⟩
  · rw [ex_entry] at h
    cases h
  rw [ex_entry] at h
  injection h with h
  subst h
  obtain rfl : N1 = 36 := by rw [← ho1.len]; rfl
  obtain ⟨g1, rfl⟩ : ∃ g, A1 = some ⟨g, 0, none⟩ := by
    rcases ho1.form with ⟨_, h, _⟩ | ⟨g, h, _⟩
    · cases h
    · exact ⟨g, h⟩
  have HO1 := Lib.hid ho1
  have HW1 := Lib.hid hb1
  clear ho1 hb1
  have HC1 := Lib.hid (Blk.new w1 82 #[.int .i64 3, .int .i64 9, .int .i64 2, .bool true])
  have hs1 := HW1.out.size
  go_wp2_with (first
    | (refine wpList_store_whole rfl 26 (.tmp 3) (.tmp 18) rfl (w1.heap.size + 1) 26 (zeroR.cells none 0) (exR.cells (some ⟨w1.heap.size, 0, none⟩) 1) rfl rfl (Blk.new_at _ _ (by simp) _ _) (by rw [R.size_, R.size_]) (by rw [R.size_]; kernel_rfl) (rec_one _ _ _) ?_
       intro w2 hb2 hg2 hz2
       have HR2 := Lib.hid hb2
       have HC2 := Lib.hid ((HC1.out.alloc _).grown hg2 (by simp))
       have HX2 := Lib.hid ((((Below.refl w1.heap.size w1).alloc (Nat.le_refl _) _).alloc (by simp) _).grown hg2 (by simp; omega) (fun k hk => by injection hk with hk; omega))
       clear hb2 hg2 hz2)
    | (refine wpList_load_mid rfl 26 (.tmp 3) rfl (w1.heap.size + 1) 0 rfl (exR.cells (some ⟨w1.heap.size, 0, none⟩) 1) _ (rangeRec HR2.out) Try.underlying26 rfl (by rw [R.size_]; kernel_rfl) ?_)
    | fail)
  have HCA2 : Hid (CAt w2 (some ⟨w1.heap.size, 0, none⟩) exR.copies) := Lib.hid (own_cat (OwnG.of_blk (w := w2) (base := 0) (k := 1) (xs := cpyCells exR.copies) HC2.out (Nat.zero_le _) rfl (by decide)))
  refine (encode_any exR (some ⟨w1.heap.size, 0, none⟩) 1 w2 (by decide) (by decide) HCA2.out).mono ?_
  rintro e w3 ⟨hb3, ⟨h, _⟩ | ⟨A3, N3, c3, bs3, h, rfl, ho3⟩⟩
  · rw [ex_enc] at h
    cases h
  rw [ex_enc] at h
  injection h with h
  subst h
  obtain rfl : N3 = 53 := by rw [← ho3.len]; rfl
  have HO3 := Lib.hid ho3
  have HX3 := Lib.hid (HX2.out.trans (hb3.mono HX2.out.size))
  have HR3 := Lib.hid (HR2.out.below_ hb3)
  have HCA3 := Lib.hid (HCA2.out.below hb3)
  clear ho3 hb3 HR2 HC1 HC2 HX2 HCA2
  go_wp2_with fail
  have hd := decode_any A3 exB 53 c3 w3 HO3.out.bat rfl HO3.out.cap_le.1 (by decide)
  rw [ex_dec] at hd
  refine hd.mono ?_
  clear hd
  rintro e w4 ⟨hb4, ⟨h, _⟩ | ⟨r, C, capC, h, rfl, hoC⟩⟩
  · cases h
  injection h with h
  subst h
  have HX4 := Lib.hid (HX3.out.trans (hb4.mono HX3.out.size))
  have HR4 := Lib.hid (HR3.out.below_ hb4)
  have HCA4 := Lib.hid (HCA3.out.below hb4)
  have HB4 := Lib.hid (HO3.out.bat.below hb4)
  have HOC4 := Lib.hid hoC
  have hs4 := HX4.out.size
  have hl4 := HR4.out.lt
  clear hb4 hoC HX3 HR3 HCA3 HO3
  go_wp2_with (first
    | (refine wpList_store_whole rfl 26 (.tmp 6) (.tmp 27) rfl w4.heap.size 26 (zeroR.cells none 0) (exR.cells C capC) rfl rfl (Blk.new w4 _ _) (by rw [R.size_, R.size_]) (by rw [R.size_]; kernel_rfl) (rec_one _ _ _) ?_
       intro w5 hb5 hg5 hz5
       have HZ5 := Lib.hid ((below_al' (w := w4) (.cells (zeroR.cells none 0).toArray 26)).grown hg5 (by simp) (fun k hk => by injection hk with hk; omega))
       have HR5 := Lib.hid (HR4.out.below_ HZ5.out)
       have HS5 := Lib.hid hb5
       have HX5 := Lib.hid (HX4.out.trans (HZ5.out.mono hs4))
       have HCA5 := Lib.hid (HCA4.out.below HZ5.out)
       have HB5 := Lib.hid (HB4.out.below HZ5.out)
       have HOC5 := Lib.hid (HOC4.out.below HZ5.out)
       have hs5 := HX5.out.size
       clear hb5 hg5 hz5)
    | (at_builtin
       refine wpList_append_bytes rfl (.tmp 30) (.tmp 31) _ rfl w5.heap.size _ byteTy _ 0 0 [] rfl (Own.new w5 w5.heap.size _ rfl (Nat.le_refl _) (by rfl) rfl (by decide)) A3 53 c3 exB rfl
         (HB5.out.below (below_al' _)) rfl 53 rfl (by omega) (by simp) ?_
       intro A6 c6 w6 ho6 hg6 hb6 hA6
       have HO6 := Lib.hid ho6
       have HW6 := Lib.hid (((below_al' (.cells #[] 5))).trans (hb6.mono (by simp)))
       clear ho6 hg6 hb6 hA6)
    | (at_builtin
       refine wpList_append_bytes rfl (.tmp 32) (.tmp 33) _ rfl w5.heap.size _ byteTy A6 53 c6 _ rfl (HO6.out.alloc _) _ 1 1 [0] rfl
         (BAt.new _ _ _ _ (by rfl)) rfl 54 rfl (by omega) (by have := HW6.out.size; simp; omega) ?_
       intro A7 c7 w7 ho7 hg7 hb7 hA7
       have HO7 := Lib.hid ho7
       have HW7 := Lib.hid ((HW6.out.alloc HW6.out.size _).trans hb7)
       clear ho7 hg7 hb7 hA7)
    | fail)
  have hd := decode_any A7 (exB ++ [0]) 54 c7 w7 HO7.out.bat rfl HO7.out.cap_le.1 (by decide)
  rw [ex_no] at hd
  refine hd.mono ?_
  clear hd
  rintro e w8 ⟨hb8, ⟨_, rfl⟩ | ⟨r, C', capC', h, _⟩⟩
  case inr => cases h
  have HW8 := Lib.hid (HW7.out.trans (hb8.mono HW7.out.size))
  have hs8 := HW8.out.size
  clear hb8 HW6 HW7 HO6 HO7
  go_wp2_with (first
    | (refine wpList_store_whole rfl 26 (.tmp 8) (.tmp 36) rfl w8.heap.size 26 (zeroR.cells none 0) (zeroR.cells none 0) rfl rfl (Blk.new w8 _ _) rfl (by rw [R.size_]; kernel_rfl) (rec_one _ _ _) ?_
       intro w9 hb9 hg9 hz9
       have HZ9 := Lib.hid ((below_al' (w := w8) (.cells (zeroR.cells none 0).toArray 26)).grown hg9 (by simp) (fun k hk => by injection hk with hk; omega))
       have HW9 := Lib.hid (HW8.out.trans (HZ9.out.mono hs8))
       have HR9 := Lib.hid (HR5.out.below_ HW9.out)
       have HS9 := Lib.hid (HS5.out.below_ HW9.out)
       clear hb9 hg9 hz9)
    | (refine wpList_load_mid rfl 26 (.tmp 3) rfl (w1.heap.size + 1) 0 rfl (exR.cells (some ⟨w1.heap.size, 0, none⟩) 1) _ (rangeRec HR9.out) Try.underlying26 rfl (by rw [R.size_]; kernel_rfl) ?_)
    | (refine wpList_load_mid rfl 26 (.tmp 6) rfl w4.heap.size 0 rfl (exR.cells C capC) _ (rangeRec HS9.out) Try.underlying26 rfl (by rw [R.size_]; kernel_rfl) ?_)
    | fail)
  have hsm := same_any exR exR (some ⟨w1.heap.size, 0, none⟩) C 1 capC w9 (by decide) (by decide) (HCA5.out.below HW9.out) (own_cat (HOC5.out.below HW9.out))
  rw [same_self] at hsm
  refine hsm.mono ?_
  clear hsm
  rintro e w10 ⟨rfl, hb10⟩
  have HX10 := Lib.hid (HX5.out.trans ((HW9.out.trans (hb10.mono HW9.out.size)).mono hs5))
  have HO10 := Lib.hid (HO1.out.below HX10.out)
  have d0 := HO10.out.at_ (k := 0) (by decide)
  have d1 := HO10.out.at_ (k := 1) (by decide)
  have d3 := HO10.out.at_ (k := 3) (by decide)
  simp [V8] at d0 d1 d3
  clear hb10
  go_wp2_with fail
  refine (name5 _).mono ?_
  rintro e w' ⟨rfl, rfl⟩
  go_wp2_with fail
  refine (name1 _).mono ?_
  rintro e w' ⟨rfl, rfl⟩
  go_wp2_with fail
  go_ret
  exact ⟨rfl, HW1.out.trans (HX10.out.mono hs1)⟩
end Go.Proofs.Ytomncfiklkhfjaa.Rec
