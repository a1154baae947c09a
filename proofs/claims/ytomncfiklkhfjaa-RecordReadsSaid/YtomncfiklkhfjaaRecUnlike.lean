/- The law of unlike bytes: it returns true for any two, and leaves all that was there. -/
import Derived.Test.YtomncfiklkhfjaaRecLaws
namespace Go.Proofs.Ytomncfiklkhfjaa.Rec
open Go.RowKit Mem Crc _root_.Go.Proofs.Ytomncfiklkhfjaa.Frame
attribute [local go_sem] S8_size S8_toList
def codeD {α : Type} : Option α → Int
  | none => 110
  | some _ => 0
def rdOf : Option (List UInt8 × Nat × List UInt8) → List UInt8 × Nat × List UInt8
  | none => ([], 0, List.replicate 32 0)
  | some x => x
theorem RetD.one {w : World} {o : Option R} {e : Ending} {w' : World} (h : RetD w o e w') : Below w.heap.size w w' ∧ ∃ C cap, e = .returned (.tuple #[.agg ((o.getD zeroR).cells C cap).toArray, .int .i64 (codeD o)]) ∧
    OwnG w' w.heap.size 82 4 C (o.getD zeroR).copies.length cap (cpyCells (o.getD zeroR).copies) := by
  obtain ⟨hb, ⟨rfl, rfl⟩ | ⟨r, C, cap, rfl, rfl, ho⟩⟩ := h
  · exact ⟨hb, none, 0, rfl, OwnG.nil_ _ _ _ _⟩
  · exact ⟨hb, C, cap, rfl, ho⟩
theorem RetRd.one {w : World} {o : Option (List UInt8 × Nat × List UInt8)} {e : Ending} {w' : World} (h : RetRd w o e w') : Below w.heap.size w w' ∧ (rdOf o).2.2.length = 32 ∧
    e = .returned (.tuple #[.string (S8 (rdOf o).1), .int .i64 (((rdOf o).2.1 : Nat) : Int), .agg (cellsOf (rdOf o).2.2), .int .i64 (codeD o)]) := by
  obtain ⟨hb, ⟨rfl, rfl⟩ | ⟨id, l, root, rfl, h32, rfl⟩⟩ := h
  · exact ⟨hb, by simp [rdOf], rfl⟩
  · exact ⟨hb, h32, rfl⟩
theorem codeD_zero {α : Type} {o : Option α} (h : codeD o = 0) : ∃ x, o = some x := by
  cases o with
  | none => simp [codeD] at h
  | some x => exact ⟨x, rfl⟩
theorem unlike_dec {a b : List UInt8} (hne : a ≠ b) (h1 : codeD (decodeM a) = 0) (h2 : codeD (decodeM b) = 0) : sameM ((decodeM a).getD zeroR) ((decodeM b).getD zeroR) = false := by
  obtain ⟨x, hx⟩ := codeD_zero h1
  obtain ⟨y, hy⟩ := codeD_zero h2
  rw [hx, hy, ← Bool.not_eq_true, sameM_iff]
  intro e
  have e1 := dec_enc hx
  have e2 := dec_enc hy
  simp only [Option.getD_some] at e
  rw [e, e2] at e1
  injection e1 with e1
  exact hne e1.symm
theorem unlike_read {a b : List UInt8} (hne : a ≠ b) (h1 : codeD (readM a) = 0) (h2 : codeD (readM b) = 0) : rdOf (readM a) ≠ rdOf (readM b) := by
  obtain ⟨⟨i, l, r⟩, hx⟩ := codeD_zero h1
  obtain ⟨⟨j, k, s⟩, hy⟩ := codeD_zero h2
  rw [hx, hy]
  intro e
  simp only [rdOf, Prod.mk.injEq] at e
  obtain ⟨rfl, rfl, rfl⟩ := e
  have e1 := read_entry hx
  have e2 := read_entry hy
  rw [e1] at e2
  injection e2 with e2
  exact hne e2
theorem dec_len (b : List UInt8) : ((decodeM b).getD zeroR).copies.length ≤ 8 := by
  cases h : decodeM b with
  | none => decide
  | some r =>
    have e := dec_enc h
    unfold R.encode at e
    split at e
    · rename_i hm
      obtain ⟨_, _, _, _, _, _, _, hk⟩ := (head_iff r).1 (may_true hm).1
      exact hk
    · cases e
theorem two_way (c d : Int) (s : Bool) (h : c = 0 → d = 0 → s = false) : ((c == 0) = false) ∨ ((c == 0) = true ∧ (d == 0) = false) ∨ ((c == 0) = true ∧ (d == 0) = true ∧ s = false) := by
  by_cases hc : c = 0
  · by_cases hd : d = 0
    · exact .inr (.inr ⟨by simp [hc], by simp [hd], h hc hd⟩)
    · exact .inr (.inl ⟨by simp [hc], by simp [hd]⟩)
  · exact .inl (by simp [hc])
theorem five_way (c d : Int) (x y : List UInt8 × Nat × List UInt8) (h : c = 0 → d = 0 → x ≠ y) : ((c == 0) = false) ∨ ((c == 0) = true ∧ (d == 0) = false) ∨ ((c == 0) = true ∧ (d == 0) = true ∧ (x.1 == y.1) = false) ∨
    ((c == 0) = true ∧ (d == 0) = true ∧ (x.1 == y.1) = true ∧ (((x.2.1 : Nat) : Int) == ((y.2.1 : Nat) : Int)) = false) ∨ ((c == 0) = true ∧ (d == 0) = true ∧ (x.1 == y.1) = true ∧ (((x.2.1 : Nat) : Int) == ((y.2.1 : Nat) : Int)) = true ∧ (x.2.2 == y.2.2) = false) := by
  by_cases hc : c = 0
  · by_cases hd : d = 0
    · have hn := h hc hd
      obtain ⟨a, b, e⟩ := x
      obtain ⟨a', b', e'⟩ := y
      by_cases h1 : a = a'
      · by_cases h2 : b = b'
        · refine .inr (.inr (.inr (.inr ⟨by simp [hc], by simp [hd], by simp [h1], by simp [h2], ?_⟩)))
          simp only [beq_eq_false_iff_ne, ne_eq]
          intro h3
          exact hn (by rw [h1, h2, h3])
        · exact .inr (.inr (.inr (.inl ⟨by simp [hc], by simp [hd], by simp [h1], by simp; omega⟩)))
      · exact .inr (.inr (.inl ⟨by simp [hc], by simp [hd], by simp [h1]⟩))
    · exact .inr (.inl ⟨by simp [hc], by simp [hd]⟩)
  · exact .inl (by simp [hc])
set_option maxRecDepth 100000 in
set_option maxHeartbeats 8000000 in
theorem lawUnlike (A B : Option Addr) (xs bs : List UInt8) (m n capA capB : Nat) (w : World) (hm : xs.length = m) (hn : bs.length = n) (hc : m ≤ capA) (hd : n ≤ capB) (hcm : m ≤ 140737488355328) (hcn : n ≤ 140737488355328) (ha : BAt w A xs) (hb : BAt w B bs) :
    Calls Try.prog 7 #[.slice A m capA, .slice B n capB] w fun e w' => e = .returned (.bool true) ∧ Below w.heap.size w w' := by
  have HA := Lib.hid ha
  have HB := Lib.hid hb
  have HM := Lib.hid hm
  have HN := Lib.hid hn
  clear ha hb hm hn
  go_enter Try.func7, Try.ntmps7
  go_wp2_with fail
  refine (shown_any w).mono ?_
  rintro e w1 ⟨rfl, hb1⟩
  have HW1 := Lib.hid hb1
  have HA1 := Lib.hid (HA.out.below hb1)
  have HB1 := Lib.hid (HB.out.below hb1)
  have hs1 := run_toString (P := Try.prog) (w := w1) (ts := 9) byteTy strTy capA HA1.out HM.out
  have hs2 := run_toString (P := Try.prog) (w := w1) (ts := 9) byteTy strTy capB HB1.out HN.out
  rw [show ByteArray.mk xs.toArray = S8 xs from rfl] at hs1
  rw [show ByteArray.mk bs.toArray = S8 bs from rfl] at hs2
  clear hb1
  by_cases hab : xs = bs
  · have hbq : (xs == bs) = true := by simp [hab]
    have HAB := Lib.hid hab
    clear hab
    go_wp2_with fail
    go_ret
    exact ⟨rfl, HW1.out⟩
  · have hbq : (xs == bs) = false := by simp [hab]
    have HAB := Lib.hid hab
    clear hab
    go_wp2_with fail
    clear hs1 hs2 hbq
    refine (decode_any A xs m capA w1 HA1.out HM.out hc hcm).mono ?_
    intro e w2 hr
    obtain ⟨hb2, C, capC, rfl, ho2⟩ := hr.one
    have HW2 := Lib.hid (HW1.out.trans (hb2.mono HW1.out.size))
    have HB2 := Lib.hid (HB1.out.below hb2)
    have HA2 := Lib.hid (HA1.out.below hb2)
    have HO2 := Lib.hid ho2
    clear hr hb2 ho2
    go_wp2_with
      (refine wpList_store_whole rfl 26 (.tmp 6) (.tmp 33) rfl w2.heap.size 26 (zeroR.cells none 0) _ rfl rfl (Blk.new w2 _ _) (by rw [R.size_, R.size_]) (by rw [R.size_]; kernel_rfl) (rec_one _ _ _) ?_
       intro w3 hb3 hg3 hz3
       have HZ3 := Lib.hid (below_set_new HW2.out hg3)
       have HG3 := Lib.hid hb3
       clear hb3 hg3 hz3)
    have HW3 := Lib.hid (HW2.out.trans (HZ3.out.mono HW2.out.size))
    have HB3 := Lib.hid (HB2.out.below HZ3.out)
    have HA3 := Lib.hid (HA2.out.below HZ3.out)
    have HO3 := Lib.hid (HO2.out.below HZ3.out)
    refine (decode_any B bs n capB w3 HB3.out HN.out hd hcn).mono ?_
    intro e w4 hr
    obtain ⟨hb4, D, capD, rfl, ho4⟩ := hr.one
    have HW4 := Lib.hid (HW3.out.trans (hb4.mono HW3.out.size))
    have HB4 := Lib.hid (HB3.out.below hb4)
    have HA4 := Lib.hid (HA3.out.below hb4)
    have HO4 := Lib.hid (HO3.out.below hb4)
    have HP4 := Lib.hid ho4
    have HG4 := Lib.hid (HG3.out.below_ hb4)
    clear hr hb4 ho4
    go_wp2_with
      (refine wpList_store_whole rfl 26 (.tmp 8) (.tmp 38) rfl w4.heap.size 26 (zeroR.cells none 0) _ rfl rfl (Blk.new w4 _ _) (by rw [R.size_, R.size_]) (by rw [R.size_]; kernel_rfl) (rec_one _ _ _) ?_
       intro w5 hb5 hg5 hz5
       have HZ5 := Lib.hid (below_set_new HW4.out hg5)
       have HG5 := Lib.hid (HG4.out.below_ HZ5.out)
       have HH5 := Lib.hid hb5
       clear hb5 hg5 hz5
       go_wp2_with
         (refine wpList_load_mid rfl 26 (.tmp 6) rfl w2.heap.size 0 rfl _ _ (rangeRec HG5.out) Try.underlying26 rfl (by rw [R.size_]; kernel_rfl) ?_
          refine wpList_load_mid rfl 26 (.tmp 8) rfl w4.heap.size 0 rfl _ _ (rangeRec HH5.out) Try.underlying26 rfl (by rw [R.size_]; kernel_rfl) ?_
          go_wp2_with fail))
    have HW5 := Lib.hid (HW4.out.trans (HZ5.out.mono HW4.out.size))
    have HB5 := Lib.hid (HB4.out.below HZ5.out)
    have HA5 := Lib.hid (HA4.out.below HZ5.out)
    have hsm := same_any _ _ C D capC capD w5 (Nat.le_trans (dec_len xs) (by decide)) (Nat.le_trans (dec_len bs) (by decide)) (own_cat (HO4.out.below HZ5.out)) (own_cat (HP4.out.below HZ5.out))
    refine hsm.mono ?_
    clear hsm
    rintro e w6 ⟨rfl, hb6⟩
    have HW6 := Lib.hid (HW5.out.trans (hb6.mono HW5.out.size))
    have HB6 := Lib.hid (HB5.out.below hb6)
    have HA6 := Lib.hid (HA5.out.below hb6)
    have HUD := Lib.hid (unlike_dec HAB.out)
    have HUR := Lib.hid (unlike_read HAB.out)
    clear hb6 HO4 HP4 HG4 HG5 HH5 HO2 HO3 HG3
    generalize sameM ((decodeM xs).getD zeroR) ((decodeM bs).getD zeroR) = sm at *
    go_wp2_with fail
    refine (read_any A xs m capA w6 HA6.out HM.out hc hcm).mono ?_
    intro e w7 hr
    obtain ⟨hb7, h32, rfl⟩ := hr.one
    have HW7 := Lib.hid (HW6.out.trans (hb7.mono HW6.out.size))
    have HB7 := Lib.hid (HB6.out.below hb7)
    have H32 := Lib.hid h32
    clear hr hb7 h32
    go_wp2_with
      (refine wpList_store_whole rfl 23 (.tmp 13) (.tmp 48) rfl w7.heap.size 23 ((List.replicate 32 (0 : UInt8)).map B8) ((rdOf (readM xs)).2.2.map B8) rfl rfl (Blk.new w7 _ _) (by simp [H32.out]) (by rw [hash_size]; simp [H32.out]) (cells_one _) ?_
       intro w8 hb8 hg8 hz8
       have HZ8 := Lib.hid (below_set_new HW7.out hg8)
       have HG8 := Lib.hid hb8
       clear hb8 hg8 hz8)
    have HW8 := Lib.hid (HW7.out.trans (HZ8.out.mono HW7.out.size))
    have HB8 := Lib.hid (HB7.out.below HZ8.out)
    refine (read_any B bs n capB w8 HB8.out HN.out hd hcn).mono ?_
    intro e w9 hr
    obtain ⟨hb9, h33, rfl⟩ := hr.one
    have HW9 := Lib.hid (HW8.out.trans (hb9.mono HW8.out.size))
    have HG9 := Lib.hid (HG8.out.below_ hb9)
    have H33 := Lib.hid h33
    clear hr hb9 h33
    rcases two_way (codeD (decodeM xs)) (codeD (decodeM bs)) sm HUD.out with c1 | ⟨c1, c2⟩ | ⟨c1, c2, c3⟩
    all_goals
      rcases five_way (codeD (readM xs)) (codeD (readM bs)) (rdOf (readM xs)) (rdOf (readM bs)) HUR.out with d1 | ⟨d1, d2⟩ | ⟨d1, d2, d3⟩ | ⟨d1, d2, d3, d4⟩ | ⟨d1, d2, d3, d4, d5⟩
      case inr.inr.inr.inr =>
        go_wp2_with
          (refine wpList_store_whole rfl 23 (.tmp 17) (.tmp 55) rfl w9.heap.size 23 ((List.replicate 32 (0 : UInt8)).map B8) ((rdOf (readM bs)).2.2.map B8) rfl rfl (Blk.new w9 _ _) (by simp [H33.out]) (by rw [hash_size]; simp [H33.out]) (cells_one _) ?_
           intro w10 hb10 hg10 hz10
           have HZ10 := Lib.hid (below_set_new HW9.out hg10)
           have HG10 := Lib.hid (HG9.out.below_ HZ10.out)
           have HH10 := Lib.hid hb10
           clear hb10 hg10 hz10
           go_wp2_with
             (refine wpList_load_mid_g (op := ⟨some 85, _, _, _, _, _⟩) (by rfl) 23 (.tmp 13) rfl w7.heap.size 0 rfl ((rdOf (readM xs)).2.2.map B8) _ (blk_range HG10.out) arrTy rfl (by rw [hash_size]; simp [H32.out]) ?_
              refine wpList_load_mid_g (op := ⟨some 86, _, _, _, _, _⟩) (by rfl) 23 (.tmp 17) rfl w9.heap.size 0 rfl ((rdOf (readM bs)).2.2.map B8) _ (blk_range HH10.out) arrTy rfl (by rw [hash_size]; simp [H33.out]) ?_
              refine wpList_eql_bytes (op := ⟨some 87, _, _, _, _, _⟩) (by rfl) 23 5 32 (.tmp 85) (.tmp 86) _ rfl (rdOf (readM xs)).2.2 (rdOf (readM bs)).2.2 rfl rfl arrTy Try.underlying5 hash_unit H32.out H33.out hash_guard ?_
              go_wp2_with fail
              go_ret
              exact ⟨rfl, HW9.out.trans (HZ10.out.mono HW9.out.size)⟩))
      all_goals
        go_wp2_with
          (refine wpList_store_whole rfl 23 (.tmp 17) (.tmp 55) rfl w9.heap.size 23 ((List.replicate 32 (0 : UInt8)).map B8) ((rdOf (readM bs)).2.2.map B8) rfl rfl (Blk.new w9 _ _) (by simp [H33.out]) (by rw [hash_size]; simp [H33.out]) (cells_one _) ?_
           intro w10 hb10 hg10 hz10
           have HZ10 := Lib.hid (below_set_new HW9.out hg10)
           clear hb10 hg10 hz10
           go_wp2_with fail
           go_ret
           exact ⟨rfl, HW9.out.trans (HZ10.out.mono HW9.out.size)⟩)
end Go.Proofs.Ytomncfiklkhfjaa.Rec
