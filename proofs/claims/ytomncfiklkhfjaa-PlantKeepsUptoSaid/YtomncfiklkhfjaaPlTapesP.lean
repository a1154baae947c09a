/- The plain law of 'PlantTapes': behind a boot a tape has a beginning of what was appended. No program. -/
import Derived.Test.YtomncfiklkhfjaaPlOk
namespace Go.Proofs.Ytomncfiklkhfjaa.Pl.Tapes
open Go Go.RowKit Mem
variable (blk : Nat → List UInt8)
/-- Blocks j .. i - 1 wait. -/
def wrs (j k : Nat) : List Wr := (List.range' j k).map fun i => ⟨1, i, blk i⟩
def hasOf (j : Nat) : List (List UInt8) := (List.range j).map blk
/-- A plant with a disk of one sector and a tape of forty blocks. -/
def TM (H : List (List UInt8)) (ws : List Wr) (s : Nat) : PM := { disks := [1], tapes := [40], devs := [⟨false, 1, [zeros]⟩, ⟨true, 40, H⟩], waits := ws, off := false, fuse := none, steps := s, now := 0 }
theorem TM_new : newM [1] [40] = some (TM [] [] 0) := by kernel_rfl
theorem cnt_all (ws : List Wr) (h : ∀ x ∈ ws, x.dev = 1) : cnt ws 1 = ws.length := by
  unfold cnt
  rw [List.countP_eq_length]
  exact fun x hx => by simpa using h x hx
theorem wrs_dev (j k : Nat) : ∀ x ∈ wrs blk j k, x.dev = 1 := fun x hx => by
  obtain ⟨i, _, rfl⟩ := List.mem_map.1 hx
  rfl
theorem wrs_len (j k : Nat) : (wrs blk j k).length = k := by simp [wrs]
theorem wrs_next (j k : Nat) : wrs blk j (k + 1) = wrs blk j k ++ [⟨1, j + k, blk (j + k)⟩] := by
  unfold wrs
  rw [List.range'_concat]
  simp
theorem hasOf_len (j : Nat) : (hasOf blk j).length = j := by simp [hasOf]
theorem hasOf_next (j : Nat) : hasOf blk (j + 1) = hasOf blk j ++ [blk j] := by
  unfold hasOf
  rw [List.range_succ]
  simp
theorem TM_append (hb : ∀ i, (blk i).length = 64) (H : List (List UInt8)) (ws : List Wr) (s : Nat) (i : Nat) (hw : ∀ x ∈ ws, x.dev = 1) (hi : H.length + ws.length = i) (b : List UInt8) (h64 : b.length = 64) :
    (TM H ws s).append 1 b = if i = 40 then (TM H ws s, 0, 3) else (TM H (ws ++ [⟨1, i, b⟩]) (s + 1), (i : Int), 0) := by
  have hsz : (⟨true, 40, H⟩ : Dev).size ws 1 = i := by
    unfold Dev.size
    rw [cnt_all ws hw]
    exact hi
  have hstep : (TM H ws s).step = ({ TM H ws s with steps := s + 1 }, true) := rfl
  have hnum : (TM H ws s).num 1 = some 1 := by unfold PM.num; rfl
  unfold PM.append
  rw [hnum]
  show (if false = true then _ else if (true = false) then _ else if b.length ≠ 64 then _ else if (⟨true, 40, H⟩ : Dev).size ws 1 = 40 then _ else _) = _
  rw [if_neg (by simp), if_neg (by simp), if_neg (by simp [h64]), hsz]
  by_cases h40 : i = 40
  · rw [if_pos h40, if_pos h40]
  · rw [if_neg h40, if_neg h40]
    have hg : (TM H ws s).give 1 i b = (TM H (ws ++ [⟨1, i, b⟩]) (s + 1), 0) := by
      unfold PM.give
      rw [hstep]
      rfl
    show (if ((TM H ws s).give 1 ((⟨true, 40, H⟩ : Dev).size ws 1) b).2 = 0 then (((TM H ws s).give 1 ((⟨true, 40, H⟩ : Dev).size ws 1) b).1, (((⟨true, 40, H⟩ : Dev).size ws 1 : Nat) : Int), (0 : Int)) else _) = _
    rw [hsz, hg]
    rfl
theorem settle_TM (H : List (List UInt8)) (x : Wr) (hx : x.dev = 1) : settle [⟨false, 1, [zeros]⟩, ⟨true, 40, H⟩] x = [⟨false, 1, [zeros]⟩, ⟨true, 40, H ++ [x.b]⟩] := by
  unfold settle
  rw [hx]
  rfl
theorem fold_TM : ∀ (ws : List Wr) (H : List (List UInt8)), (∀ x ∈ ws, x.dev = 1) → ws.foldl settle [⟨false, 1, [zeros]⟩, ⟨true, 40, H⟩] = [⟨false, 1, [zeros]⟩, ⟨true, 40, H ++ ws.map (·.b)⟩]
  | [], H, _ => by simp
  | x :: ws, H, h => by
    rw [List.foldl_cons, settle_TM H x (h x (by simp)), fold_TM ws _ (fun y hy => h y (by simp [hy]))]
    simp
theorem wrs_b (j k : Nat) : (wrs blk j k).map (·.b) = (List.range' j k).map blk := by
  unfold wrs
  rw [List.map_map]
  rfl
theorem TM_flush (f s : Nat) : (TM [] (wrs blk 0 f) s).flush 1 = (TM (hasOf blk f) [] (s + 1), 0) := by
  have hstep : (TM [] (wrs blk 0 f) s).step = ({ TM [] (wrs blk 0 f) s with steps := s + 1 }, true) := rfl
  have hnum : (TM [] (wrs blk 0 f) s).num 1 = some 1 := by unfold PM.num; rfl
  unfold PM.flush
  rw [hnum, hstep]
  show (({ TM [] (wrs blk 0 f) s with steps := s + 1, devs := ((wrs blk 0 f).filter fun x => x.dev == 1).foldl settle [⟨false, 1, [zeros]⟩, ⟨true, 40, []⟩], waits := (wrs blk 0 f).filter fun x => !(x.dev == 1) } : PM), (0 : Int)) = _
  have h1 : (wrs blk 0 f).filter (fun x => x.dev == 1) = wrs blk 0 f := List.filter_eq_self.2 fun x hx => by simpa using wrs_dev blk 0 f x hx
  have h2 : (wrs blk 0 f).filter (fun x => !(x.dev == 1)) = [] := List.filter_eq_nil_iff.2 fun x hx => by simpa using wrs_dev blk 0 f x hx
  rw [h1, h2, fold_TM _ _ (wrs_dev blk 0 f), wrs_b]
  unfold hasOf
  rw [List.range_eq_range']
  rfl
/-- What a tape has behind a boot. -/
def Good (j n : Nat) (H : List (List UInt8)) : Prop := j ≤ H.length ∧ H.length ≤ n ∧ ∀ i, i < H.length → H[i]? = some (blk i) ∨ (i + 1 = H.length ∧ j ≤ i ∧ H[i]? = some (torn (blk i)))
theorem hasOf_get {j i : Nat} (h : i < j) : (hasOf blk j)[i]? = some (blk i) := by
  unfold hasOf
  simp [h]
theorem good_has {j m n : Nat} (h1 : j ≤ m) (h2 : m ≤ n) : Good blk j n (hasOf blk m) := by
  refine ⟨by rw [hasOf_len]; exact h1, by rw [hasOf_len]; exact h2, fun i hi => ?_⟩
  rw [hasOf_len] at hi
  exact .inl (hasOf_get blk hi)
theorem good_torn {j m n : Nat} (h1 : j ≤ m) (h2 : m + 1 ≤ n) : Good blk j n (hasOf blk m ++ [torn (blk m)]) := by
  have hl : (hasOf blk m ++ [torn (blk m)]).length = m + 1 := by simp [hasOf_len]
  refine ⟨by rw [hl]; omega, by rw [hl]; exact h2, fun i hi => ?_⟩
  rw [hl] at hi ⊢
  rcases Nat.lt_or_ge i m with h | h
  · left
    rw [List.getElem?_append_left (by rw [hasOf_len]; exact h)]
    exact hasOf_get blk h
  · have : i = m := by omega
    subst this
    right
    refine ⟨rfl, h1, ?_⟩
    rw [List.getElem?_append_right (by rw [hasOf_len]; exact Nat.le_refl _), hasOf_len]
    simp
theorem bs_e {keep : List Int} {q : Nat} {s1 : List Dev} {x : Nat} {b : List UInt8} : bootStep keep (s1, [1]) q ⟨1, x, b⟩ = (s1, [1]) := by
  unfold bootStep
  rw [if_pos (by rfl)]
theorem boot_inv (keep : List Int) (j k s : Nat) : ∀ q, q ≤ k → ∃ H, ((TM (hasOf blk j) (wrs blk j k) s).bootAt keep q).1 = [⟨false, 1, [zeros]⟩, ⟨true, 40, H⟩] ∧ Good blk j (j + q) H ∧ (((TM (hasOf blk j) (wrs blk j k) s).bootAt keep q).2 = [] ∧ H = hasOf blk (j + q) ∨ ((TM (hasOf blk j) (wrs blk j k) s).bootAt keep q).2 = [1])
  | 0, _ => ⟨hasOf blk j, rfl, good_has blk (Nat.le_refl _) (Nat.le_refl _), .inl ⟨rfl, rfl⟩⟩
  | q + 1, hq => by
    obtain ⟨H, h1, h2, h3⟩ := boot_inv keep j k s q (by omega)
    have hx : (TM (hasOf blk j) (wrs blk j k) s).waits[q]? = some ⟨1, j + q, blk (j + q)⟩ := by
      show (wrs blk j k)[q]? = _
      unfold wrs
      rw [List.getElem?_map, List.getElem?_range' (by omega)]
      simp
    rw [PM.bootAt_next hx]
    generalize (TM (hasOf blk j) (wrs blk j k) s).bootAt keep q = st at h1 h3
    obtain ⟨s1, s2⟩ := st
    simp only at h1 h3
    subst h1
    have hmono : Good blk j (j + (q + 1)) H := ⟨h2.1, by have := h2.2.1; omega, h2.2.2⟩
    rcases h3 with ⟨rfl, rfl⟩ | rfl
    · unfold bootStep
      simp only [List.contains_nil, Bool.false_eq_true, if_false]
      have htp : (([⟨false, 1, [zeros]⟩, ⟨true, 40, hasOf blk (j + q)⟩] : List Dev)[1]?).any (·.tape) = true := rfl
      by_cases hodd : keepAt keep q % 2 ≠ 0
      · rw [if_pos hodd]
        refine ⟨hasOf blk (j + (q + 1)), ?_, good_has blk (by omega) (Nat.le_refl _), .inl ⟨rfl, rfl⟩⟩
        show settle _ _ = _
        rw [settle_TM _ _ rfl, show j + (q + 1) = j + q + 1 by omega, hasOf_next]
      · rw [if_neg hodd]
        simp only [htp, if_true]
        by_cases h42 : keepAt keep q % 4 = 2
        · rw [if_pos h42]
          refine ⟨hasOf blk (j + q) ++ [torn (blk (j + q))], ?_, good_torn blk (by omega) (by omega), .inr rfl⟩
          show settle _ _ = _
          rw [settle_TM _ _ rfl]
        · rw [if_neg h42]
          exact ⟨hasOf blk (j + q), rfl, hmono, .inr rfl⟩
    · refine ⟨H, ?_, hmono, .inr ?_⟩
      · rw [bs_e]
      · rw [bs_e]
theorem TM_boot (keep : List Int) (j k s : Nat) : ∃ H, (TM (hasOf blk j) (wrs blk j k) s).boot keep = TM H [] s ∧ Good blk j (j + k) H := by
  obtain ⟨H, h1, h2, _⟩ := boot_inv blk keep j k s k (Nat.le_refl _)
  refine ⟨H, ?_, h2⟩
  rw [PM.boot_eq]
  have e : (TM (hasOf blk j) (wrs blk j k) s).waits.length = k := wrs_len blk j k
  rw [e, h1]
  rfl
theorem TM_len (H : List (List UInt8)) (s : Nat) : (TM H [] s).len 1 = ((H.length : Int), 0) := by
  have hnum : (TM H [] s).num 1 = some 1 := by unfold PM.num; rfl
  unfold PM.len
  rw [hnum]
  rfl
theorem TM_read (H : List (List UInt8)) (s i : Nat) {b : List UInt8} (h : H[i]? = some b) : (TM H [] s).read 1 (i : Int) = (some b, 0) := by
  have hi := (List.getElem?_eq_some_iff.1 h).1
  have hnum : (TM H [] s).num 1 = some 1 := by unfold PM.num; rfl
  unfold PM.read
  rw [hnum]
  show (if false = true then _ else if 0 ≤ (i : Int) ∧ (i : Int) < ((⟨true, 40, H⟩ : Dev).size [] 1 : Nat) then (some (lastW [] 1 (i : Int).toNat ((⟨true, 40, H⟩ : Dev).at_ (i : Int).toNat)), (0 : Int)) else _) = _
  rw [if_neg (by simp), if_pos ⟨by omega, by show (i : Int) < ((H.length + cnt [] 1 : Nat) : Int); simp [cnt]; exact hi⟩]
  unfold lastW Dev.at_
  simp [List.getD_eq_getElem?_getD, h]
theorem good_len64 (hb : ∀ i, (blk i).length = 64) {j n : Nat} {H : List (List UInt8)} (h : Good blk j n H) {i : Nat} {b : List UInt8} (hi : H[i]? = some b) : b.length = 64 := by
  rcases h.2.2 i (List.getElem?_eq_some_iff.1 hi).1 with h1 | ⟨_, _, h1⟩
  · rw [hi] at h1; injection h1 with h1; rw [h1]; exact hb i
  · rw [hi] at h1; injection h1 with h1; rw [h1]; exact torn_len (hb i)
end Go.Proofs.Ytomncfiklkhfjaa.Pl.Tapes
