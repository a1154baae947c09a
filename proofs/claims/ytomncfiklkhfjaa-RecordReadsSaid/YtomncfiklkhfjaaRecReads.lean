/- The law of what is read: it returns true for any bytes. -/
import Derived.Test.YtomncfiklkhfjaaRecWrites
import Derived.Test.YtomncfiklkhfjaaRecRefDecode
namespace Go.Proofs.Ytomncfiklkhfjaa.Rec
open Go.RowKit Mem Crc _root_.Go.Proofs.Ytomncfiklkhfjaa.Frame
attribute [local go_sem] S8_size S8_toList
attribute [local go_sem ↓] Go.wp_at_zero Go.wp_at_succ
/-- What holds at the head of a round of the spoiling loop. -/
def SpoilR (w : World) (base : Nat) (A : Option Addr) (n c : Nat) (iv : Value) (wr : World) : Prop :=
  ∃ (k : Nat) (ds : List UInt8), k ≤ n ∧ iv = .int .i64 k ∧ Own wr base 5 A n c ds ∧ w.grownBy wr (Value.slice A n c).ownBlock
theorem dec_id {b : List UInt8} {r : R} (h : decodeM b = some r) : r.id.length ≤ 16 := by
  have e := dec_enc h
  unfold R.encode at e
  split at e
  · rename_i hm
    exact (name_len ((head_iff r).1 (may_true hm).1).1).2
  · cases e
set_option maxRecDepth 100000 in
set_option maxHeartbeats 8000000 in
theorem lawReads (A : Option Addr) (bs : List UInt8) (m cap : Nat) (w : World) (hb : BAt w A bs) (hm : bs.length = m) (hc : m ≤ cap) (hcap : m ≤ 140737488355327) :
    Calls Try.prog 4 #[.slice A m cap] w fun e w' => e = .returned (.bool true) ∧ Below w.heap.size w w' := by
  have HB := Lib.hid hb
  have HM := Lib.hid hm
  clear hb hm
  go_enter Try.func4, Try.ntmps4
  go_wp2_with fail
  refine (shown_any _).mono ?_
  rintro e w1 ⟨rfl, hb1⟩
  have HW1 := Lib.hid hb1
  clear hb1
  have HO1 : Hid (Own (w1.alloc (.cells #[] 5)) w1.heap.size 5 (some ⟨w1.heap.size, 0, none⟩) 0 0 []) := Lib.hid (Own.of_blk (Blk.new w1 5 #[]) (Nat.le_refl _) rfl (Nat.zero_le _))
  have HB1 := Lib.hid ((HB.out.below HW1.out).below (below_al' (.cells #[] 5)))
  go_wp2_with
    (at_builtin
     refine wpList_append_bytes rfl (.tmp 14) (.tmp 15) _ rfl w1.heap.size _ byteTy (some ⟨w1.heap.size, 0, none⟩) 0 0 [] rfl HO1.out A m cap bs rfl HB1.out HM.out m (by omega) (by omega) (by simp) ?_
     intro A2 c2 w2 ho hg hb2 hA)
  have HW2 := Lib.hid ((HW1.out.alloc HW1.out.size _).trans (hb2.mono HW1.out.size))
  have HO2 : Hid (Own w2 w1.heap.size 5 A2 m c2 bs) := Lib.hid ho
  clear ho hg hb2 hA HO1 HB1
  refine (decode_any A2 bs m c2 w2 HO2.out.bat HM.out HO2.out.cap_le.1 (by omega)).mono ?_
  intro e w3 hr
  obtain ⟨hb3, C3, cap3, rfl, ho3⟩ := hr.one
  have HW3 := Lib.hid (HW2.out.trans (hb3.mono HW2.out.size))
  have HO3 := Lib.hid (HO2.out.below hb3)
  have HX3 := Lib.hid ho3
  have HS23 := Lib.hid hb3.size
  clear hr hb3 ho3
  generalize hxr : (decodeM bs).getD zeroR = xr at *
  have HXR := Lib.hid hxr
  clear hxr
  go_wp2_with
    (refine wpList_store_whole rfl 26 (.tmp 5) (.tmp 20) rfl w3.heap.size 26 (zeroR.cells none 0) (xr.cells C3 cap3) rfl rfl (Blk.new w3 _ _) (by rw [R.size_, R.size_]) (by rw [R.size_]; kernel_rfl) (rec_one _ _ _) ?_
     intro w4 hb4 hg4 hz4
     have HXB := Lib.hid hb4
     have HS4 := Lib.hid ((Below.refl w3.heap.size w3).alloc (Nat.le_refl _) (.cells (zeroR.cells none 0).toArray 26) |>.grown hg4 (by simp) (fun k hk => by injection hk with hk; omega))
     clear hb4 hg4 hz4)
  have HW4 := Lib.hid (HW3.out.trans (HS4.out.mono HW3.out.size))
  have HO4 := Lib.hid (HO3.out.below HS4.out)
  have HX4 := Lib.hid (HX3.out.below HS4.out)
  clear HO3 HX3
  refine (refDecode_any A bs m cap w4 (HB.out.below HW4.out) HM.out hc (by omega)).mono ?_
  intro e w5 hr
  obtain ⟨hb5, C5, cap5, rfl, ho5⟩ := hr.one
  rw [HXR.out] at ho5
  rw [HXR.out]
  have HW5 := Lib.hid (HW4.out.trans (hb5.mono HW4.out.size))
  have HO5 := Lib.hid (HO4.out.below hb5)
  have HX5 := Lib.hid (HX4.out.below hb5)
  have HXB5 := Lib.hid (HXB.out.below_ hb5)
  have HY5 := Lib.hid ho5
  have HS45 := Lib.hid hb5.size
  clear hr hb5 ho5
  go_wp2_with
    (refine wpList_store_whole rfl 26 (.tmp 7) (.tmp 25) rfl w5.heap.size 26 (zeroR.cells none 0) (xr.cells C5 cap5) rfl rfl (Blk.new w5 _ _) (by rw [R.size_, R.size_]) (by rw [R.size_]; kernel_rfl) (rec_one _ _ _) ?_
     intro w6 hb6 hg6 hz6
     have HYB := Lib.hid hb6
     have HS6 := Lib.hid ((Below.refl w5.heap.size w5).alloc (Nat.le_refl _) (.cells (zeroR.cells none 0).toArray 26) |>.grown hg6 (by simp) (fun k hk => by injection hk with hk; omega))
     clear hb6 hg6 hz6)
  have HO6 := Lib.hid (HO5.out.below HS6.out)
  have hm47 : (m : Int) ≤ 140737488355327 := by omega
  go_loopw [9] (fun i wr => SpoilR w6 w1.heap.size A2 m c2 i wr) (fun i _ => m - (intOf i).toNat)
  case atStart => exact ⟨0, bs, Nat.zero_le _, rfl, HO6.out, World.grownBy.refl _ _⟩
  case round =>
    obtain ⟨k, ds, hk, rfl, ho, hg⟩ := hrel
    have HD := Lib.hid ho
    have HG := Lib.hid hg
    clear ho hg
    by_cases hlt : k < m
    · obtain ⟨g, rfl⟩ : ∃ g, A2 = some ⟨g, 0, none⟩ := by
        rcases HD.out.form with ⟨_, h, _⟩ | ⟨g, h, _, _⟩
        · omega
        · exact ⟨g, h⟩
      have hcell := HD.out.at_ hlt
      have hfree := HD.out.free k
      go_wp2
      go_roundw
      case rel => exact ⟨k + 1, _, hlt, by go_num, HD.out.setByte k 99, HG.out.trans (grownBy_setCell _ _ _ _ (by simp [Value.ownBlock]))⟩
      case measure => simp [intOf]; omega
    · obtain rfl : k = m := by omega
      have hW2 := HW1.out.size
      have h23 : w2.heap.size ≤ w3.heap.size := HS23.out
      have h34 : w3.heap.size ≤ w4.heap.size := HS4.out.size
      have h45 : w4.heap.size ≤ w5.heap.size := HS45.out
      have hne : ∀ g, w2.heap.size ≤ g → (Value.slice A2 k c2).ownBlock ≠ some g := fun g hg => by
        rcases HO2.out.form with ⟨rfl, _, _⟩ | ⟨g2, rfl, _, hg2⟩
        · simp [Value.ownBlock]
        · simp [Value.ownBlock]; omega
      have h56 := HS6.out.size
      have HXr := Lib.hid ((HXB5.out.below_ HS6.out).grown HG.out (Ne.symm (hne _ h23)))
      have HYr := Lib.hid (HYB.out.grown HG.out (Ne.symm (hne _ (by omega))))
      have hkp : ∀ (C : Option Addr) (W : World) (base cp n : Nat) (xs : List Value), w2.heap.size ≤ base → OwnG W base 82 4 C n cp xs → C = none ∨ C.map (·.block) ≠ (Value.slice A2 k c2).ownBlock := fun C W base cp n xs hbs h => by
        rcases h.form with ⟨rfl, _, _⟩ | ⟨g, rfl, hg, _⟩
        · exact .inl rfl
        · exact .inr (Ne.symm (hne g (by omega)))
      have HXC := Lib.hid ((HX5.out.below HS6.out).kept HG.out (hkp _ _ _ _ _ _ (Nat.le_refl _) HX5.out))
      have HYC := Lib.hid ((HY5.out.below HS6.out).kept HG.out (hkp _ _ _ _ _ _ (by omega) HY5.out))
      have HWr := Lib.hid ((HW5.out.trans (HS6.out.mono HW5.out.size)).grown HG.out (by have := HW5.out.size; omega) (fun g hg => by have := HO2.out.row_ge g hg; omega))
      have HXL : Hid (xr.copies.length ≤ 140737488355328) := Lib.hid (by have := dec_len bs; rw [HXR.out] at this; omega)
      clear HO2 HO4 HO5 HO6 HX4 HX5 HXB HXB5 HYB HY5 HS4 HS6 HD HG HW2 HW3 HW4 HW5 HS23 HS45 hne hkp
      go_wp2_with
        (refine wpList_load_mid rfl 26 (.tmp 5) rfl w3.heap.size 0 rfl (xr.cells C3 cap3) _ (rangeRec HXr.out) Try.underlying26 rfl (by rw [R.size_]; kernel_rfl) ?_
         refine wpList_load_mid rfl 26 (.tmp 7) rfl w5.heap.size 0 rfl (xr.cells C5 cap5) _ (rangeRec HYr.out) Try.underlying26 rfl (by rw [R.size_]; kernel_rfl) ?_
         go_wp2_with fail)
      have hsm := same_any xr xr C3 C5 cap3 cap5 wr HXL.out HXL.out (own_cat HXC.out) (own_cat HYC.out)
      rw [same_self] at hsm
      refine hsm.mono ?_
      clear hsm
      rintro e w7 ⟨rfl, hb7⟩
      have HW7 := Lib.hid (HWr.out.trans (hb7.mono HWr.out.size))
      have HX7 := Lib.hid (HXr.out.below_ hb7)
      have HC7 := Lib.hid (HXC.out.below hb7)
      clear hb7 HXr HYr HXC HYC HWr
      cases hd : decodeM bs with
      | none =>
        have hc0 : codeD (none : Option R) = 110 := rfl
        rw [hc0]
        clear hd hc0
        go_wp2_with fail
        go_ret
        exact ⟨rfl, HW7.out⟩
      | some r =>
        have hc0 : codeD (some r) = 0 := rfl
        rw [hc0]
        have hxr : r = xr := by have := HXR.out; rw [hd] at this; exact this
        subst hxr
        have HEN := Lib.hid (dec_enc hd)
        have HID := Lib.hid (dec_id hd)
        clear hd hc0
        go_wp2_with
          (refine wpList_load_mid rfl 26 (.tmp 5) rfl w3.heap.size 0 rfl (r.cells C3 cap3) _ (rangeRec HX7.out) Try.underlying26 rfl (by rw [R.size_]; kernel_rfl) ?_
           go_wp2_with fail)
        refine (encode_any r C3 cap3 w7 (by have := HID.out; omega) HXL.out (own_cat HC7.out)).mono ?_
        intro e w8 hr
        obtain ⟨hb8, A8, N8, c8, rfl, ho8⟩ := hr.one
        rw [HEN.out] at ho8
        rw [HEN.out]
        have ho : Own w8 w7.heap.size 5 A8 N8 c8 bs := ho8
        have e1 := str_of (cap := c8) ho.bat ho.len
        have HW8 := Lib.hid (HW7.out.trans (hb8.mono HW7.out.size))
        have e2 := str_of (cap := cap) (HB.out.below HW8.out) HM.out
        have hc1 : codeD (some bs : Option (List UInt8)) = 0 := rfl
        rw [hc1]
        clear hr hb8 ho8 ho hc1
        go_wp2_with fail
        go_ret
        exact ⟨rfl, HW8.out⟩
end Go.Proofs.Ytomncfiklkhfjaa.Rec
