/- Layer 15 (coldvol): what can be read of a tape of objects. Plain. -/
import Derived.Test.YtloffgoenaomkaaDoorColS2
namespace Go.Proofs.YtloffgoenaomkaaDoor.Col
open Go Go.RowKit Mem Pl Disk Crc _root_.Go.Proofs.YtloffgoenaomkaaDoor.Frame Hash Sha
theorem tagM_inj {k n a k' n' a' : Nat} (hk : k < 256) (hn : n < 256) (ha : a < 65536) (hk' : k' < 256) (hn' : n' < 256) (ha' : a' < 65536) (h : tagM k n a = tagM k' n' a') : k = k' ∧ n = n' ∧ a = a' := by
  unfold tagM at h
  simp only [List.cons.injEq, and_true] at h
  obtain ⟨h1, h2, h3, h4⟩ := h
  have e : ∀ x y : Nat, UInt8.ofNat x = UInt8.ofNat y → x % 256 = y % 256 := fun x y h => by
    have := congrArg UInt8.toNat h
    simpa [UInt8.toNat_ofNat'] using this
  have e1 := e _ _ h1
  have e2 := e _ _ h2
  have e3 := e _ _ h3
  have e4 := e _ _ h4
  omega
theorem putM_cases {s : Nat} {id b c : List UInt8} {i : Nat} (h : (putM s id b)[i]? = some c) :
    (i = 0 ∧ c = blkM (tagM 1 0 s) (headM b.length id)) ∨ (∃ j, j < dataN b.length ∧ i = j + 1 ∧ c = blkM (tagM 2 (j + 1) s) (chunkB b j)) ∨ (i = dataN b.length + 1 ∧ c = blkM (tagM 3 (dataN b.length + 1) s) []) := by
  unfold putM at h
  rcases Nat.lt_trichotomy i (dataN b.length + 1) with hi | hi | hi
  · rw [List.getElem?_append_left (by rw [frontM_len]; exact hi)] at h
    unfold frontM at h
    cases i with
    | zero => simp at h; exact .inl ⟨rfl, h.symm⟩
    | succ j =>
      simp only [List.getElem?_cons_succ, List.getElem?_map] at h
      rw [List.getElem?_range (by omega)] at h
      simp at h
      exact .inr (.inl ⟨j, by omega, rfl, h.symm⟩)
  · subst hi
    rw [List.getElem?_append_right (by rw [frontM_len]; exact Nat.le_refl _), frontM_len] at h
    simp at h
    exact .inr (.inr ⟨rfl, h.symm⟩)
  · rw [List.getElem?_append_right (by rw [frontM_len]; omega), frontM_len] at h
    rw [List.getElem?_eq_none (by simp; omega)] at h
    cases h
theorem putM_head (s : Nat) (id b : List UInt8) : (putM s id b)[0]? = some (blkM (tagM 1 0 s) (headM b.length id)) := rfl
theorem putM_data (s : Nat) (id b : List UInt8) {j : Nat} (h : j < dataN b.length) : (putM s id b)[j + 1]? = some (blkM (tagM 2 (j + 1) s) (chunkB b j)) := by
  unfold putM
  rw [List.getElem?_append_left (by rw [frontM_len]; omega)]
  unfold frontM
  rw [List.getElem?_cons_succ, List.getElem?_map, List.getElem?_range h]
  rfl
theorem putM_end (s : Nat) (id b : List UInt8) : (putM s id b)[dataN b.length + 1]? = some (blkM (tagM 3 (dataN b.length + 1) s) []) := by
  unfold putM
  rw [List.getElem?_append_right (by rw [frontM_len]; exact Nat.le_refl _), frontM_len]
  simp
/-- A block's 56 bytes. -/
def padB (b : List UInt8) : List UInt8 := b ++ List.replicate (56 - b.length) 0
theorem readM_nil (want : List UInt8) : readM [] want = none := by
  unfold readM
  rw [if_neg (fun h => absurd h.2.2 (by decide))]
/-- Blocks that an object left there, each at its own place; or such as no object has. -/
def Fair (K : Nat) (T : List (List UInt8)) (own : Nat → List UInt8 → List UInt8 → Prop) : Prop :=
  ∀ j c, T[j]? = some c → (∀ kind num at_, kind ≤ K → readM c (tagM kind num at_) = none) ∨ ∃ s id b i, own s id b ∧ j = s + i ∧ (putM s id b)[i]? = some c
structure Owns (own : Nat → List UInt8 → List UInt8 → Prop) : Prop where
  one : ∀ s id b id' b', own s id b → own s id' b' → id = id' ∧ b = b'
  may : ∀ s id b, own s id b → Rec.nameM id = true ∧ b.length ≤ 512
theorem getD_some {T : List (List UInt8)} {k : Nat} {want h : List UInt8} (hr : readM (T.getD k []) want = some h) : ∃ c, T[k]? = some c ∧ readM c want = some h := by
  rw [List.getD_eq_getElem?_getD] at hr
  cases hc : T[k]? with
  | none => rw [hc] at hr; simp [readM_nil] at hr
  | some c => rw [hc] at hr; exact ⟨c, rfl, hr⟩
section
variable {K : Nat} {T : List (List UInt8)} {own : Nat → List UInt8 → List UInt8 → Prop}
theorem Fair.read (hF : Fair K T own) (hO : Owns own) (hT : T.length ≤ 65536) {k kind num at_ : Nat} {h : List UInt8} (hK : kind ≤ K) (hk : kind < 256) (hn : num < 256) (ha : at_ < 65536) (hr : readM (T.getD k []) (tagM kind num at_) = some h) :
    ∃ id b, own at_ id b ∧ k = at_ + num ∧ T[k]? = (putM at_ id b)[num]? ∧
      ((kind = 1 ∧ num = 0 ∧ h = padB (headM b.length id)) ∨ (kind = 2 ∧ ∃ j, j < dataN b.length ∧ num = j + 1 ∧ h = padB (chunkB b j)) ∨ (kind = 3 ∧ num = dataN b.length + 1)) := by
  obtain ⟨c, hc, hq⟩ := getD_some hr
  have hkl := (List.getElem?_eq_some_iff.1 hc).1
  rcases hF k c hc with h0 | ⟨s, id, b, i, ho, hj, hp⟩
  · rw [h0 kind num at_ hK] at hq; cases hq
  · obtain ⟨hnm, hb5⟩ := hO.may s id b ho
    have hid := name_len hnm
    have hD : dataN b.length ≤ 10 := by unfold dataN; omega
    have hs : s < 65536 := by omega
    rcases putM_cases hp with ⟨hi, hcc⟩ | ⟨j, hjD, hi, hcc⟩ | ⟨hi, hcc⟩
    · rw [hcc, readM_blkM rfl (by rw [headM_len]; omega)] at hq
      split at hq
      · rename_i ht
        obtain ⟨h1, h2, h3⟩ := tagM_inj (by omega) (by omega) hs hk hn ha ht
        subst h1 h2 h3
        exact ⟨id, b, ho, by omega, by rw [hc, ← hp, hi], .inl ⟨rfl, rfl, (Option.some.inj hq).symm⟩⟩
      · cases hq
    · rw [hcc, readM_blkM rfl (chunkB_len b j)] at hq
      split at hq
      · rename_i ht
        obtain ⟨h1, h2, h3⟩ := tagM_inj (by omega) (by omega) hs hk hn ha ht
        subst h1 h2 h3
        exact ⟨id, b, ho, by omega, by rw [hc, ← hp, hi], .inr (.inl ⟨rfl, j, hjD, rfl, (Option.some.inj hq).symm⟩)⟩
      · cases hq
    · rw [hcc, readM_blkM rfl (by decide)] at hq
      split at hq
      · rename_i ht
        obtain ⟨h1, h2, h3⟩ := tagM_inj (by omega) (by omega) hs hk hn ha ht
        subst h1 h2 h3
        exact ⟨id, b, ho, by omega, by rw [hc, ← hp, hi], .inr (.inr ⟨rfl, rfl⟩)⟩
      · cases hq
end
theorem headM_told {m : Nat} {id : List UInt8} (hid : id.length ≤ 16) (hm : m ≤ 512) : ((padB (headM m id)).getD 0 0).toNat = id.length ∧ be (((padB (headM m id)).drop 1).take 2) = m ∧ ((padB (headM m id)).drop 3).take id.length = id := by
  refine ⟨?_, ?_, ?_⟩
  · unfold padB headM
    simp [UInt8.toNat_ofNat']
    omega
  · unfold padB
    rw [show headM m id = UInt8.ofNat id.length :: (beB m 2 ++ id) by simp [headM]]
    rw [List.cons_append, List.drop_succ_cons, List.drop_zero, List.append_assoc, List.take_append, beB_length]
    rw [List.take_of_length_le (by rw [beB_length]; exact Nat.le_refl _)]
    simp only [Nat.sub_self, List.take_zero, List.append_nil, be_beB]
    omega
  · unfold padB
    rw [show headM m id = [UInt8.ofNat id.length] ++ beB m 2 ++ id from rfl]
    have h3 : ([UInt8.ofNat id.length] ++ beB m 2).length = 3 := by simp [beB_length]
    rw [List.append_assoc, List.drop_append, h3, List.drop_of_length_le (by omega)]
    simp
theorem chunk_take {b : List UInt8} {j : Nat} (h : j < dataN b.length) : (b.take (56 * j)).length = 56 * j ∧ (padB (chunkB b j)).take (min 56 (b.length - (b.take (56 * j)).length)) = chunkB b j ∧ b.take (56 * j) ++ chunkB b j = b.take (56 * (j + 1)) := by
  have h1 : 56 * j < b.length := by unfold dataN at h; omega
  have h2 : (b.take (56 * j)).length = 56 * j := by rw [List.length_take]; omega
  have h3 : (chunkB b j).length = min 56 (b.length - 56 * j) := by unfold chunkB; rw [List.length_take, List.length_drop]
  refine ⟨h2, ?_, ?_⟩
  · rw [h2, ← h3]
    unfold padB
    rw [List.take_append, List.take_of_length_le (Nat.le_refl _)]
    simp
  · unfold chunkB
    rw [show 56 * (j + 1) = 56 * j + 56 by omega, List.take_add]
theorem dataN_cover (b : List UInt8) : b.take (56 * dataN b.length) = b := List.take_of_length_le (by unfold dataN; omega)
section
variable {K : Nat} {T : List (List UInt8)} {own : Nat → List UInt8 → List UInt8 → Prop}
theorem dataM_fair (hF : Fair K T own) (hO : Owns own) (hT : T.length ≤ 65536) (hK : 3 ≤ K) {at_ : Nat} (ha : at_ < 65536) {id b : List UInt8} (ho : own at_ id b) :
    ∀ (f i : Nat) (b' : List UInt8), i + f = dataN b.length → dataM T at_ b.length f (i + 1) (b.take (56 * i)) = some b' → b' = b ∧ ∀ j, i ≤ j → j < dataN b.length → T[at_ + (j + 1)]? = (putM at_ id b)[j + 1]?
  | 0, i, b', hi, h => by
    have hi' : i = dataN b.length := by omega
    subst hi'
    have h1 := Option.some.inj h
    rw [dataN_cover] at h1
    exact ⟨h1.symm, fun j h1 h2 => by omega⟩
  | f + 1, i, b', hi, h => by
    have hD : dataN b.length ≤ 10 := by have := (hO.may at_ id b ho).2; unfold dataN; omega
    unfold dataM at h
    split at h
    · rename_i c hc
      obtain ⟨id', b2, ho', hk, hget, hw⟩ := hF.read hO hT (by omega) (by omega) (by omega) ha hc
      obtain ⟨rfl, rfl⟩ := hO.one at_ id b id' b2 ho ho'
      rcases hw with ⟨h0, _⟩ | ⟨_, j, hj, hji, hcc⟩ | ⟨h0, _⟩
      · omega
      · obtain rfl : i = j := by omega
        obtain ⟨e1, e2, e3⟩ := chunk_take hj
        rw [hcc, e2, e3] at h
        obtain ⟨h5, h6⟩ := dataM_fair hF hO hT hK ha ho f (i + 1) b' (by omega) h
        refine ⟨h5, fun j2 h7 h8 => ?_⟩
        rcases Nat.lt_or_ge i j2 with h9 | h9
        · exact h6 j2 h9 h8
        · obtain rfl : i = j2 := by omega
          exact hget
      · omega
    · cases h
/-- Whatever is read there is an object that is there whole. -/
theorem Fair.obj (hF : Fair K T own) (hO : Owns own) (hT : T.length ≤ 65536) (hK : 3 ≤ K) {at_ : Nat} {id b : List UInt8} (h : objM T at_ = some (id, b)) :
    own at_ id b ∧ ∀ i, i < 2 + dataN b.length → T[at_ + i]? = (putM at_ id b)[i]? := by
  unfold objM at h
  split at h
  · cases h
  · rename_i hd hh
    have hlt : at_ < T.length := by
      obtain ⟨c, hc, _⟩ := getD_some hh
      exact (List.getElem?_eq_some_iff.1 hc).1
    obtain ⟨id', b', ho, hk, hget, hw⟩ := hF.read hO hT (by omega) (by omega) (by omega) (by omega) hh
    obtain ⟨hnm, hb5⟩ := hO.may at_ id' b' ho
    have hid := name_len hnm
    have hD : dataN b'.length ≤ 10 := by unfold dataN; omega
    have hhd : hd = padB (headM b'.length id') := by
      rcases hw with ⟨_, _, h0⟩ | ⟨h0, _⟩ | ⟨h0, _⟩
      · exact h0
      · omega
      · omega
    obtain ⟨e1, e2, e3⟩ := headM_told (m := b'.length) hid.2 hb5
    rw [hhd, e1, e2] at h
    unfold restM at h
    split at h
    · cases h
    · split at h
      · cases h
      · rename_i b2 hb2
        obtain ⟨rfl, hrest⟩ := dataM_fair hF hO hT hK (by omega) ho (dataN b'.length) 0 b2 (by omega) (by simpa using hb2)
        split at h
        · rename_i hcc
          have he := Option.some.inj h
          rw [e3] at he
          injection he with he1 he2
          subst he1 he2
          refine ⟨ho, fun i hi => ?_⟩
          rcases (show i = 0 ∨ (∃ j, i = j + 1 ∧ j < dataN b2.length) ∨ i = dataN b2.length + 1 by
            rcases i with _ | j
            · exact .inl rfl
            · rcases Nat.lt_or_ge j (dataN b2.length) with hj | hj
              · exact .inr (.inl ⟨j, rfl, hj⟩)
              · exact .inr (.inr (by omega))) with rfl | ⟨j, rfl, hj⟩ | rfl
          · exact hget
          · exact hrest j (Nat.zero_le _) hj
          · obtain ⟨h9, hh9⟩ := Option.isSome_iff_exists.1 hcc.1
            obtain ⟨id3, b3, ho3, hk3, hget3, hw3⟩ := hF.read hO hT (by omega) (by omega) (by omega) (by omega) hh9
            obtain ⟨rfl, rfl⟩ := hO.one at_ _ _ id3 b3 ho ho3
            exact hget3
        · cases h
/-- An object that is there whole is read. -/
theorem dataM_put {at_ : Nat} {id b : List UInt8} (h : ∀ i, i < 2 + dataN b.length → T[at_ + i]? = (putM at_ id b)[i]?) :
    ∀ (f i : Nat), i + f = dataN b.length → dataM T at_ b.length f (i + 1) (b.take (56 * i)) = some b
  | 0, i, hi => by
    have hi' : i = dataN b.length := by omega
    subst hi'
    show some (b.take _) = some b
    rw [dataN_cover]
  | f + 1, i, hi => by
    have hj : i < dataN b.length := by omega
    have h1 := h (i + 1) (by omega)
    rw [putM_data at_ id b hj] at h1
    have h2 : readM (T.getD (at_ + (i + 1)) []) (tagM 2 (i + 1) at_) = some (padB (chunkB b i)) := by
      rw [List.getD_eq_getElem?_getD, h1]
      show readM (blkM _ _) _ = _
      rw [readM_blkM rfl (chunkB_len b i), if_pos rfl]
      rfl
    obtain ⟨e1, e2, e3⟩ := chunk_take hj
    unfold dataM
    rw [h2]
    simp only [e2, e3]
    exact dataM_put h f (i + 1) (by omega)
theorem obj_put {at_ : Nat} {id b : List UInt8} (hnm : Rec.nameM id = true) (hb5 : b.length ≤ 512) (h : ∀ i, i < 2 + dataN b.length → T[at_ + i]? = (putM at_ id b)[i]?) : objM T at_ = some (id, b) := by
  have hid := name_len hnm
  have h0 := h 0 (by omega)
  rw [putM_head, Nat.add_zero] at h0
  have h1 : readM (T.getD at_ []) (tagM 1 0 at_) = some (padB (headM b.length id)) := by
    rw [List.getD_eq_getElem?_getD, h0]
    show readM (blkM _ _) _ = _
    rw [readM_blkM rfl (by rw [headM_len]; omega), if_pos rfl]
    rfl
  have h2 := h (dataN b.length + 1) (by omega)
  rw [putM_end] at h2
  have h3 : readM (T.getD (at_ + (dataN b.length + 1)) []) (tagM 3 (dataN b.length + 1) at_) = some (padB []) := by
    rw [List.getD_eq_getElem?_getD, h2]
    show readM (blkM _ _) _ = _
    rw [readM_blkM rfl (by decide), if_pos rfl]
    rfl
  have hlt := (List.getElem?_eq_some_iff.1 h2).1
  obtain ⟨e1, e2, e3⟩ := headM_told (m := b.length) hid.2 hb5
  have hd := dataM_put h (dataN b.length) 0 (by omega)
  rw [Nat.mul_zero, List.take_zero] at hd
  unfold objM
  rw [h1]
  simp only [e1, e2]
  unfold restM
  rw [if_neg (by omega), hd]
  simp only [h3, e3]
  rw [if_pos ⟨rfl, hnm⟩]
end
/-- Objects, each behind the one ahead of it. -/
def layB (os : List (Nat × List UInt8 × List UInt8)) : List (List UInt8) := os.flatMap fun o => putM o.1 o.2.1 o.2.2
def Ats : Nat → List (Nat × List UInt8 × List UInt8) → Prop
  | _, [] => True
  | p, o :: r => o.1 = p ∧ Rec.nameM o.2.1 = true ∧ o.2.2.length ≤ 512 ∧ Ats (p + (2 + dataN o.2.2.length)) r
theorem layB_cons (o : Nat × List UInt8 × List UInt8) (r : List (Nat × List UInt8 × List UInt8)) : layB (o :: r) = putM o.1 o.2.1 o.2.2 ++ layB r := rfl
theorem layB_snoc (os : List (Nat × List UInt8 × List UInt8)) (s : Nat) (id b : List UInt8) : layB (os ++ [(s, id, b)]) = layB os ++ putM s id b := by
  unfold layB
  rw [List.flatMap_append]
  simp
theorem Ats.snoc : ∀ (os : List (Nat × List UInt8 × List UInt8)) (p : Nat) {id b : List UInt8}, Ats p os → Rec.nameM id = true → b.length ≤ 512 → Ats p (os ++ [(p + (layB os).length, id, b)])
  | [], _, _, _, _, h1, h2 => ⟨rfl, h1, h2, trivial⟩
  | o :: r, p, id, b, h, h1, h2 => by
    obtain ⟨ha, hb, hc, hd⟩ := h
    refine ⟨ha, hb, hc, ?_⟩
    have h3 := Ats.snoc r (p + (2 + dataN o.2.2.length)) hd h1 h2
    have e : p + (layB (o :: r)).length = p + (2 + dataN o.2.2.length) + (layB r).length := by rw [layB_cons, List.length_append, putM_len]; omega
    rw [e]
    exact h3
theorem Ats.name : ∀ (os : List (Nat × List UInt8 × List UInt8)) (p : Nat) {s : Nat} {id b : List UInt8}, Ats p os → (s, id, b) ∈ os → p ≤ s ∧ s + (2 + dataN b.length) ≤ p + (layB os).length ∧ Rec.nameM id = true ∧ b.length ≤ 512
  | [], _, _, _, _, _, h => by cases h
  | o :: r, p, s, id, b, h, hm => by
    obtain ⟨ha, hb, hc, hd⟩ := h
    rw [layB_cons, List.length_append, putM_len]
    rcases List.mem_cons.1 hm with rfl | hm
    · exact ⟨by omega, by simp only at ha ⊢; omega, hb, hc⟩
    · have := Ats.name r _ hd hm
      exact ⟨by omega, by omega, this.2.2⟩
theorem Ats.one : ∀ (os : List (Nat × List UInt8 × List UInt8)) (p : Nat) {s : Nat} {id b id' b' : List UInt8}, Ats p os → (s, id, b) ∈ os → (s, id', b') ∈ os → id = id' ∧ b = b'
  | [], _, _, _, _, _, _, _, h, _ => by cases h
  | o :: r, p, s, id, b, id', b', h, h1, h2 => by
    obtain ⟨ha, hb, hc, hd⟩ := h
    rcases List.mem_cons.1 h1 with k1 | k1
    · rcases List.mem_cons.1 h2 with k2 | k2
      · have k3 := k1.trans k2.symm
        injection k3 with _ k3
        injection k3 with k3 k4
        exact ⟨k3, k4⟩
      · have k3 := (Ats.name r _ hd k2).1
        rw [← k1] at ha k3
        simp only at ha k3
        omega
    · rcases List.mem_cons.1 h2 with k2 | k2
      · have k3 := (Ats.name r _ hd k1).1
        rw [← k2] at ha k3
        simp only at ha k3
        omega
      · exact Ats.one r _ hd k1 k2
theorem layB_get : ∀ (os : List (Nat × List UInt8 × List UInt8)) (p : Nat) {j : Nat} {c : List UInt8}, Ats p os → (layB os)[j]? = some c → ∃ s id b i, (s, id, b) ∈ os ∧ p + j = s + i ∧ (putM s id b)[i]? = some c
  | [], _, _, _, _, h => by simp [layB] at h
  | o :: r, p, j, c, h, hc => by
    obtain ⟨ha, _, _, hd⟩ := h
    rw [layB_cons] at hc
    rcases Nat.lt_or_ge j (putM o.1 o.2.1 o.2.2).length with hj | hj
    · rw [List.getElem?_append_left hj] at hc
      exact ⟨o.1, o.2.1, o.2.2, j, List.mem_cons_self .., by omega, hc⟩
    · rw [List.getElem?_append_right hj] at hc
      obtain ⟨s, id, b, i, h1, h2, h3⟩ := layB_get r _ hd hc
      rw [putM_len] at hj h2
      exact ⟨s, id, b, i, List.mem_cons_of_mem _ h1, by omega, h3⟩
theorem layB_at : ∀ (os : List (Nat × List UInt8 × List UInt8)) (p : Nat) {s i : Nat} {id b : List UInt8}, Ats p os → (s, id, b) ∈ os → i < 2 + dataN b.length → (layB os)[s - p + i]? = (putM s id b)[i]?
  | [], _, _, _, _, _, _, h, _ => by cases h
  | o :: r, p, s, i, id, b, h, hm, hi => by
    obtain ⟨ha, _, _, hd⟩ := h
    rw [layB_cons]
    rcases List.mem_cons.1 hm with rfl | hm
    · simp only at ha
      rw [ha, Nat.sub_self, Nat.zero_add, List.getElem?_append_left (by rw [putM_len]; exact hi)]
    · have h1 := (Ats.name r _ hd hm).1
      rw [List.getElem?_append_right (by rw [putM_len]; omega), putM_len, ← layB_at r _ hd hm hi]
      congr 1
      omega
/-- A tape of objects, sealed perhaps. -/
structure Tp (os : List (Nat × List UInt8 × List UInt8)) (sd : Option (List UInt8)) (T : List (List UInt8)) : Prop where
  ats : Ats 0 os
  eq : T = layB os ++ (match sd with
    | none => []
    | some r => sealBs (layB os).length r)
  root : ∀ r, sd = some r → r.length = 32
  len : T.length ≤ 4096
section
variable {os : List (Nat × List UInt8 × List UInt8)} {sd : Option (List UInt8)} {T : List (List UInt8)}
theorem Tp.owns (h : Tp os sd T) : Owns fun s id b => (s, id, b) ∈ os := ⟨fun _s _id _b _id' _b' h1 h2 => Ats.one os 0 h.ats h1 h2, fun _s _id _b h1 => (Ats.name os 0 h.ats h1).2.2⟩
theorem Tp.fair (h : Tp os sd T) : Fair 3 T fun s id b => (s, id, b) ∈ os := by
  intro j c hc
  have hl := h.len
  rw [h.eq] at hc hl
  rcases Nat.lt_or_ge j (layB os).length with hj | hj
  · rw [List.getElem?_append_left hj] at hc
    obtain ⟨s, id, b, i, h1, h2, h3⟩ := layB_get os 0 h.ats hc
    exact .inr ⟨s, id, b, i, h1, by omega, h3⟩
  · rw [List.getElem?_append_right hj] at hc
    cases hsd : sd with
    | none => rw [hsd] at hc; simp at hc
    | some r =>
      rw [hsd] at hc hl
      have h32 := h.root r hsd
      have hLl : (layB os).length < 65536 := by rw [List.length_append] at hl; omega
      left
      intro kind num at_ hk
      have hcc : ∃ k2 n2 b2, c = blkM (tagM k2 n2 (layB os).length) b2 ∧ b2.length ≤ 56 ∧ (k2 = 4 ∨ k2 = 5) ∧ n2 < 256 := by
        generalize j - (layB os).length = i at hc
        match i, hc with
        | 0, hc => exact ⟨4, 0, r, (Option.some.inj hc).symm, by omega, .inl rfl, by omega⟩
        | 1, hc => exact ⟨5, 1, [], (Option.some.inj hc).symm, by decide, .inr rfl, by omega⟩
        | i + 2, hc => simp [sealBs] at hc
      obtain ⟨k2, n2, b2, rfl, hb2, hk2, hn2⟩ := hcc
      rw [readM_blkM rfl hb2, if_neg]
      intro he
      have h1 := (List.cons.inj he).1
      have h2 := congrArg UInt8.toNat h1
      rw [UInt8.toNat_ofNat', UInt8.toNat_ofNat'] at h2
      omega
theorem Tp.obj (h : Tp os sd T) (at_ : Nat) (id b : List UInt8) : objM T at_ = some (id, b) ↔ (at_, id, b) ∈ os := by
  constructor
  · intro ho
    exact (h.fair.obj h.owns (by have := h.len; omega) (Nat.le_refl _) ho).1
  · intro hm
    have hn := Ats.name os 0 h.ats hm
    refine obj_put hn.2.2.1 hn.2.2.2 fun i hi => ?_
    rw [h.eq, List.getElem?_append_left (by omega)]
    exact layB_at os 0 h.ats hm hi
theorem Tp.obj_no (h : Tp os sd T) {at_ : Nat} (hn : ∀ id b, (at_, id, b) ∉ os) : objM T at_ = none := by
  cases ho : objM T at_ with
  | none => rfl
  | some x => exact absurd ((h.obj at_ x.1 x.2).1 ho) (hn _ _)
theorem eachGo_lay {T : List (List UInt8)} : ∀ (suf : List (Nat × List UInt8 × List UInt8)) (f p : Nat), Ats p suf → (∀ o ∈ suf, objM T o.1 = some (o.2.1, o.2.2)) → objM T (p + (layB suf).length) = none → p + (layB suf).length ≤ T.length → suf.length < f → eachGo T f p = suf
  | [], 0, _, _, _, _, _, _ => rfl
  | [], f + 1, p, _, _, h2, _, _ => by
    unfold eachGo
    split
    · have : objM T p = none := h2
      rw [this]
    · rfl
  | o :: r, 0, _, _, _, _, _, h => by simp at h
  | o :: r, f + 1, p, h, h1, h2, h3, h4 => by
    obtain ⟨ha, _, _, hd⟩ := h
    rw [layB_cons, List.length_append, putM_len] at h2 h3
    unfold eachGo
    rw [if_pos (by omega)]
    have := h1 o (List.mem_cons_self ..)
    rw [ha] at this
    rw [this]
    simp only
    rw [eachGo_lay r f _ hd (fun x hx => h1 x (List.mem_cons_of_mem _ hx)) (by rw [Nat.add_assoc]; exact h2) (by omega) (by simp at h4; omega), ← ha]
theorem Ats.count : ∀ (os : List (Nat × List UInt8 × List UInt8)), 2 * os.length ≤ (layB os).length
  | [] => Nat.zero_le _
  | o :: r => by
    have := Ats.count r
    rw [layB_cons, List.length_append, putM_len, List.length_cons]
    omega
theorem Tp.blen (h : Tp os sd T) : (layB os).length + (if sd.isSome then 2 else 0) = T.length := by
  rw [h.eq, List.length_append]
  cases sd <;> rfl
theorem Tp.each (h : Tp os sd T) : eachM T = os := by
  have hl := h.blen
  have hc := Ats.count os
  refine eachGo_lay os _ 0 h.ats (fun o ho => (h.obj o.1 o.2.1 o.2.2).2 ho) ?_ (by omega) (by omega)
  refine h.obj_no fun id b hm => ?_
  have := Ats.name os 0 h.ats hm
  omega
theorem sealRoot {A : List (List UInt8)} {r : List UInt8} (hr : r.length = 32) : rootM (A ++ sealBs A.length r) = some r := by
  have hl : (A ++ sealBs A.length r).length = A.length + 2 := by rw [List.length_append]; rfl
  unfold rootM
  rw [if_neg (by omega), hl]
  have e0 : (A ++ sealBs A.length r).getD (A.length + 2 - 2) [] = blkM (tagM 4 0 A.length) r := by
    rw [List.getD_eq_getElem?_getD, List.getElem?_append_right (by omega)]
    simp [sealBs]
  have e1 : (A ++ sealBs A.length r).getD (A.length + 2 - 1) [] = blkM (tagM 5 1 A.length) [] := by
    rw [List.getD_eq_getElem?_getD, List.getElem?_append_right (by omega), show A.length + 2 - 1 - A.length = 1 by omega]
    rfl
  rw [e0, e1, show A.length + 2 - 2 = A.length by omega, readM_blkM rfl (by omega), if_pos rfl, readM_blkM rfl (by decide), if_pos rfl]
  simp only
  rw [List.take_append, hr, List.take_of_length_le (by omega)]
  simp
theorem fair_root {T : List (List UInt8)} {own : Nat → List UInt8 → List UInt8 → Prop} (hF : Fair 4 T own) (hO : Owns own) (hT : T.length ≤ 65536) : rootM T = none := by
  unfold rootM
  split
  · rfl
  · split
    · rename_i b _ hb _
      obtain ⟨id, b', _, _, _, hw⟩ := hF.read hO hT (Nat.le_refl _) (by omega) (by omega) (by omega) hb
      rcases hw with ⟨h, _⟩ | ⟨h, _⟩ | ⟨h, _⟩ <;> omega
    · rfl
theorem Tp.rootM (h : Tp os sd T) : Col.rootM T = sd := by
  cases hsd : sd with
  | none =>
    refine fair_root (own := fun s id b => (s, id, b) ∈ os) ?_ h.owns (by have := h.len; omega)
    intro j c hc
    have he := h.eq
    rw [hsd, List.append_nil] at he
    rw [he] at hc
    obtain ⟨s, id, b, i, h1, h2, h3⟩ := layB_get os 0 h.ats hc
    exact .inr ⟨s, id, b, i, h1, by omega, h3⟩
  | some r =>
    have he := h.eq
    rw [hsd] at he
    rw [he]
    exact sealRoot (h.root r hsd)
end
end Go.Proofs.YtloffgoenaomkaaDoor.Col
/- Layer 15 (coldvol): List. -/
namespace Go.Proofs.YtloffgoenaomkaaDoor.Col
open Go Go.RowKit Mem Pl Disk Crc _root_.Go.Proofs.YtloffgoenaomkaaDoor.Frame Hash
theorem placeTy : ElTy Tryd.prog 59 35 4 32 (.agg #[.int .i64 0, .int .i64 0, .int .i64 0, .bool false]) := ⟨Tryd.underlying59, by kernel_rfl, by kernel_rfl, by decide⟩
/-- The places of objects. -/
def placesV (dev : Nat) (l : List (Nat × List UInt8 × List UInt8)) : List Value := (l.map fun x => pcV dev x.1 ((2 + dataN x.2.2.length : Nat) : Int)).flatten
theorem placesV_snoc (dev : Nat) (l : List (Nat × List UInt8 × List UInt8)) (s : Nat) (id b : List UInt8) : placesV dev (l ++ [(s, id, b)]) = placesV dev l ++ pcV dev s ((2 + dataN b.length : Nat) : Int) := by
  simp [placesV]
def ListI (base gv dev : Nat) (pre : List (Nat × List UInt8 × List UInt8)) (w : World) : Prop := ∃ v, Blk w gv 59 #[v] ∧ Vec w (fun g => base ≤ g) 35 4 v pre.length (placesV dev pre)
theorem ListI.below {base gv dev : Nat} {pre : List (Nat × List UInt8 × List UInt8)} {w w' : World} (h : ListI base gv dev pre w) (hb : Below w.heap.size w w') : ListI base gv dev pre w' := by
  obtain ⟨v, h1, h2⟩ := h
  exact ⟨v, h1.below_ hb, h2.below hb⟩
set_option maxRecDepth 100000 in
set_option maxHeartbeats 4000000 in
theorem list_see (w0 : World) (gv dev : Nat) (hgv : w0.heap.size ≤ gv) (w1 w2 : World) (pre : List (Nat × List UInt8 × List UInt8)) (at_ : Nat) (id b : List UInt8) (A : Option Addr) (m cap : Nat)
    (hi : ListI w0.heap.size gv dev pre w1) (hb0 : Below w0.heap.size w0 w1) (hb : Below w1.heap.size w1 w2) (_ : id.length ≤ 16) (_ : BAt w2 A b) (hm : b.length = m) (_ : m ≤ 512) (_ : A = none → cap = 0) (hpl : pre.length ≤ 4096) :
    Calls Tryd.prog 52 #[.agg (pcV dev at_ ((2 + dataN m : Nat) : Int)).toArray, .string (Rec.S8 id), .slice A m cap, .pointer (some ⟨gv, 0, none⟩)] w2 fun e w' =>
      e = .returned (.tuple #[]) ∧ ListI w0.heap.size gv dev (pre ++ [(at_, id, b)]) w' ∧ Mods w2.heap.size (fun x => w0.heap.size ≤ x ∧ x < w1.heap.size) w2 w' := by
  obtain ⟨v, hk, hv⟩ := hi
  have hk2 := hk.below_ hb
  have hv2 : Vec w2 (fun g => w0.heap.size ≤ g ∧ g < w1.heap.size) 35 4 v pre.length (placesV dev pre) := (hv.mono fun g h1 h2 => ⟨h2, h1⟩).below hb
  obtain ⟨L, hL⟩ : ∃ L, 2 + dataN m = L := ⟨_, rfl⟩
  have hgl : gv < w1.heap.size := hk.lt
  have hs0 := hb0.size
  have hs2 := hb.size
  subst hm
  have hba := below_al' (w := w2) (.cells #[.int .i64 (dev : Int), .int .i64 (at_ : Int), .int .i64 (L : Int), .bool false] 35)
  have hka := hk2.below_ hba
  have hva := hv2.below hba
  obtain ⟨A0, c0, rfl⟩ := hv.shape
  have ck := hka.cell 0
  simp at ck
  have z3 := hka.frozen 0
  have HBA := Lib.hid hba
  have HKA := Lib.hid hka
  have HVA := Lib.hid hva
  have HG := Lib.hid (⟨hgl, hs0, hs2, hL, hpl, hgv⟩ : _ ∧ _ ∧ _ ∧ _ ∧ _ ∧ _)
  have HPL : Hid (pre.length ≤ 4096) := Lib.hid hpl
  have HN : Hid (Blk ((w2.alloc (.cells #[.int .i64 (dev : Int), .int .i64 (at_ : Int), .int .i64 (L : Int), .bool false] 35)).alloc (.cells #[.int .i64 (dev : Int), .int .i64 (at_ : Int), .int .i64 (L : Int), .bool false] 35)) (w2.heap.size + 1) 35 (pcV dev at_ (L : Int)).toArray) := Lib.hid (by
    have h1 := Blk.new (w2.alloc (.cells #[.int .i64 (dev : Int), .int .i64 (at_ : Int), .int .i64 (L : Int), .bool false] 35)) 35 (pcV dev at_ (L : Int)).toArray
    rw [World.size_alloc] at h1
    exact h1)
  have HKB := Lib.hid (hka.alloc (.cells #[.int .i64 (dev : Int), .int .i64 (at_ : Int), .int .i64 (L : Int), .bool false] 35))
  have hsB : ((w2.alloc (.cells #[.int .i64 (dev : Int), .int .i64 (at_ : Int), .int .i64 (L : Int), .bool false] 35)).alloc (.cells #[.int .i64 (dev : Int), .int .i64 (at_ : Int), .int .i64 (L : Int), .bool false] 35)).heap.size = w2.heap.size + 2 := by simp
  have HSB := Lib.hid hsB
  have HMB := Lib.hid (hba.alloc (by simp) (.cells #[.int .i64 (dev : Int), .int .i64 (at_ : Int), .int .i64 (L : Int), .bool false] 35))
  rw [hL]
  clear hk hv hk2 hv2 hL hgl hs0 hs2 hba hka hva hb hb0 hgv hpl hsB
  show Calls Tryd.prog 52 #[.agg #[.int .i64 (dev : Int), .int .i64 (at_ : Int), .int .i64 (L : Int), .bool false], .string (Rec.S8 id), .slice A b.length cap, .pointer (some ⟨gv, 0, none⟩)] w2 _
  go_enter Tryd.func52, Tryd.ntmps52
  go_wp2_with
    (refine wpList_append_vec rfl (.tmp 7) (.tmp 9) _ rfl 32 _ placeTy rfl (Vec.alloc HVA.out _) ⟨w2.heap.size + 1, 0, none⟩ 1 1 (pcV dev at_ (L : Int)) rfl rfl (blk_news HN.out) (pcV_one _ _ _) ?c1 ?c2 ?_
     case c1 => have := HPL.out; unfold maxLen; omega
     case c2 => have := HPL.out; omega
     intro v4 w4 row hv4 hg4 hr4
     obtain ⟨A4, c4, rfl⟩ := hv4.shape
     have hkb := HKB.out.grown hg4 (by
       rcases hr4 with rfl | ⟨g, cs, rfl, _, hh⟩
       · simp
       · intro e
         injection e with e
         subst e
         have hx := HKB.out
         unfold Blk at hx
         rw [hx] at hh
         injection hh with hh
         injection hh with _ hh
         exact absurd hh (by decide))
     have k4 := hkb.cell 0
     simp at k4
     have z4 := hkb.frozen 0
     have HK4 := Lib.hid hkb
     have HV4 := Lib.hid hv4
     have HG4 := Lib.hid hg4
     have HR4 := Lib.hid hr4
     clear hkb hv4 hg4 hr4 ck z3)
  refine bodyPost_end (results_none rfl _ _ _) rfl ⟨rfl, ⟨.slice A4 (pre.length + 1) c4, ?_, ?_⟩, ?_⟩
  · have hb := HK4.out.set_ 0 (.slice A4 (pre.length + 1) c4)
    simpa using hb
  · have h1 := (HV4.out.far (p := ⟨gv, 0, none⟩) HK4.out (by decide) (.slice A4 (pre.length + 1) c4))
    have e1 : (pre ++ [(at_, id, b)]).length = pre.length + 1 := by simp
    rw [e1, placesV_snoc, HG.out.2.2.2.1]
    exact h1.mono fun g _ hg => by
      have h2 := HG.out
      have h3 := HSB.out
      rcases hg with hg | hg
      · exact hg.1
      · omega
  · have h2 := HG.out
    refine (((Mods.of_below (F := fun x => w0.heap.size ≤ x ∧ x < w1.heap.size) HMB.out).grown HG4.out (by rw [HSB.out]; omega) fun g hg => ?_)).setCell (.inl ⟨h2.2.2.2.2.2, h2.1⟩) _
    rcases HR4.out with h | ⟨g', cs, h, hf, hh⟩
    · rw [h] at hg; cases hg
    · rw [h] at hg
      injection hg with hg
      subst hg
      exact .inl hf
theorem callFunc_list1 (args : Array Value) (w : World) : (callFunc 52 args).run Tryd.prog w = .ok (.enter 52 args) w := by kernel_rfl
set_option maxRecDepth 100000 in
set_option maxHeartbeats 4000000 in
/-- 'List'. -/
theorem vlist_any {B : Nat} {w : World} {F : Nat → Prop} {a : Nat} {pm : PM} {n v dev N : Nat} {H ws : List (List UInt8)} (h : VS B w F a pm n v dev N H ws) (hn : n ≤ 1000000000) :
    Calls Tryd.prog 23 #[.pointer (some ⟨v, 0, none⟩)] w fun e w' => Below w.heap.size w w' ∧ ∃ A cap, e = .returned (.slice A (eachM (H ++ ws)).length cap) ∧
      Vec w' (fun g => w.heap.size ≤ g) 35 4 (.slice A (eachM (H ++ ws)).length cap) (eachM (H ++ ws)).length (placesV dev (eachM (H ++ ws))) := by
  have hba := below_al' (w := w) (.cells #[.slice none 0 0] 59)
  have hk := Blk.new w 59 #[.slice none 0 0]
  have hi0 : ListI w.heap.size w.heap.size dev [] (w.alloc (.cells #[.slice none 0 0] 59)) := ⟨_, hk, Vec.nil_ _ _ _ _ _⟩
  have hea := each_any h hn hba 52 w.heap.size callFunc_list1 (ListI w.heap.size w.heap.size dev) hi0 (fun pre wa wb hi hb => hi.below hb) (list_see w w.heap.size dev (Nat.le_refl _))
  have HEA := Lib.hid hea
  clear hba hk hi0 hea h
  go_enter Tryd.func23, Tryd.ntmps23
  go_wp2_with fail
  refine HEA.out.mono ?_
  rintro e w1 ⟨rfl, ⟨vv, hk1, hv1⟩, hb1⟩
  obtain ⟨A1, c1, rfl⟩ := hv1.shape
  have k1 := hk1.cell 0
  simp at k1
  have HB1 := Lib.hid hb1
  have HV1 := Lib.hid hv1
  clear hk1 hb1 hv1 HEA
  go_wp2_with fail
  go_ret
  exact ⟨HB1.out, A1, c1, rfl, HV1.out⟩
end Go.Proofs.YtloffgoenaomkaaDoor.Col
/- Layer 15 (coldvol): a plant without fuse, its tapes of objects, and what each call on a volume does to them. -/
namespace Go.Proofs.YtloffgoenaomkaaDoor.Col
open Go Go.RowKit Mem Pl Disk Crc _root_.Go.Proofs.YtloffgoenaomkaaDoor.Frame Hash Sha
theorem addGo_32 : ∀ (n : Nat) (ps : List (List UInt8)) (l : List UInt8), (∀ p ∈ ps, p.length = 32) → l.length = 32 → ∀ p ∈ addGo n ps l, p.length = 32
  | n, ps, l, h, hl => by
    rw [addGo]
    split
    · rename_i hn
      exact addGo_32 (n / 2) ps.dropLast _ (fun p hp => h p (List.dropLast_subset ps hp)) (nodeM_len _ _)
    · intro p hp
      rcases List.mem_append.1 hp with hp | hp
      · exact h p hp
      · rw [List.mem_singleton.1 hp]; exact hl
termination_by n => n
decreasing_by omega
theorem addAll_32 : ∀ (ls : List (List UInt8)) (n : Nat) (ps : List (List UInt8)), (∀ l ∈ ls, l.length = 32) → (∀ p ∈ ps, p.length = 32) → ∀ p ∈ addAll ls n ps, p.length = 32
  | [], _, _, _, h => h
  | l :: ls, n, ps, h, hp => addAll_32 ls (n + 1) _ (fun x hx => h x (List.mem_cons_of_mem _ hx)) (addGo_32 n ps l hp (h l (List.mem_cons_self ..)))
theorem rootOf_len (l : List (Nat × List UInt8 × List UInt8)) : (rootOf l).length = 32 := by
  refine topM_len (addAll_32 _ 0 [] (fun x hx => ?_) (fun p hp => by cases hp))
  unfold leavesM at hx
  obtain ⟨y, _, rfl⟩ := List.mem_map.1 hx
  exact leafM_len _
/-- The tables that the program reads. -/
structure Tb (B : Nat) (w : World) : Prop where
  tab : Tab w
  kt : Ktab w
  gB : 0 < B
  kB : 1 < B
theorem Tb.below {B : Nat} {w w' : World} (h : Tb B w) (hb : Below B w w') : Tb B w' := ⟨h.tab.below hb h.gB, h.kt.below hb h.kB, h.gB, h.kB⟩
theorem Tb.more {B C : Nat} {w : World} (h : Tb B w) (hb : B ≤ C) : Tb C w := ⟨h.tab, h.kt, Nat.lt_of_lt_of_le h.gB hb, Nat.lt_of_lt_of_le h.kB hb⟩
/-- A plant that no fuse threatens. -/
structure Up (B : Nat) (w : World) (F : Nat → Prop) (a : Nat) (pm : PM) (n : Nat) : Prop where
  st : St B w F a pm n
  on : pm.off = false
  fz : pm.fuse = none
  tb : Tb B w
  bs : B ≤ w.heap.size
section
variable {B : Nat} {w w1 w' : World} {F F' : Nat → Prop} {a n n' v dev : Nat} {pm pm' : PM}
theorem Up.below (h : Up B w F a pm n) (hb : Below w.heap.size w w') : Up B w' F a pm n := ⟨h.st.below hb, h.on, h.fz, h.tb.below (hb.mono h.bs), Nat.le_trans h.bs hb.size⟩
theorem Up.more (h : Up B w F a pm n) (hn : n ≤ n') : Up B w F a pm n' := ⟨st_more h.st hn, h.on, h.fz, h.tb, h.bs⟩
theorem Frm.low {j : Nat} (hf : Frm B w F a pm n j F' pm' w') (hF : ∀ g, F g → B ≤ g) (hB : B ≤ w.heap.size) : Below B w w' := (hf.mods.mono hB fun _ _ h => h).below fun k hk hg => by have := hF k hg; omega
theorem Up.frm {j : Nat} (h : Up B w F a pm n) (hf : Frm B w F a pm n' j F' pm' w') (hon : pm'.off = false) : Up B w' F' a pm' n' :=
  ⟨hf.st, hon, hf.fuse h.fz, h.tb.below (hf.low (fun g hg => (h.st.lt g hg).1) h.bs), Nat.le_trans h.bs hf.mods.size⟩
/-- A volume's own cells, apart from the plant. -/
def Vb (w : World) (F : Nat → Prop) (v a dev : Nat) : Prop := VolB w v a dev ∧ ¬ F v
theorem Vb.below (h : Vb w F v a dev) (hb : Below w.heap.size w w') : Vb w' F v a dev := ⟨h.1.below_ hb, h.2⟩
theorem Vb.frm {c j : Nat} (h : Vb w F v a dev) (hf : Frm B w F c pm n j F' pm' w') : Vb w' F' v a dev := ⟨h.1.mods hf.mods h.1.lt h.2, fun hg => (hf.grow v hg).elim h.2 (Nat.not_le.2 h.1.lt)⟩
/-- A block that is the law's own. -/
def Kp (w : World) (F : Nat → Prop) (g : Nat) (t : TypeId) (cs : Array Value) : Prop := Blk w g t cs ∧ ¬ F g
theorem Kp.below {g : Nat} {t : TypeId} {cs : Array Value} (h : Kp w F g t cs) (hb : Below w.heap.size w w') : Kp w' F g t cs := ⟨h.1.below_ hb, h.2⟩
theorem Kp.frm {c j g : Nat} {t : TypeId} {cs : Array Value} (h : Kp w F g t cs) (hf : Frm B w F c pm n j F' pm' w') : Kp w' F' g t cs := ⟨h.1.mods hf.mods h.1.lt h.2, fun hg => (hf.grow g hg).elim h.2 (Nat.not_le.2 h.1.lt)⟩
theorem Kp.new {g : Nat} {t : TypeId} {cs : Array Value} (hk : Blk w' g t cs) (hg : w.heap.size ≤ g) (hF : ∀ k, F k → k < w.heap.size) : Kp w' F g t cs := ⟨hk, fun h => by have := hF g h; omega⟩
theorem _root_.Go.Proofs.YtloffgoenaomkaaDoor.Pl.Held.frm {c j : Nat} {A : Option Addr} {bs : List UInt8} (h : Held w F A bs) (hf : Frm B w F c pm n j F' pm' w') : Held w' F' A bs :=
  h.keep (fun ad hA => hf.mods.keep _ (h.2 ad hA).2 (h.2 ad hA).1) hf.mods.size fun _ad _ hn hlt hg => (hf.grow _ hg).elim hn (Nat.not_le.2 hlt)
/-- A tape of the plant: its objects, and whether it is sealed. -/
def TT (pm : PM) (dev N : Nat) (os : List (Nat × List UInt8 × List UInt8)) (sd : Option (List UInt8)) : Prop := ∃ H ws, TapeP pm dev N H ws ∧ Tp os sd (H ++ ws)
end
def lenT (os : List (Nat × List UInt8 × List UInt8)) (sd : Option (List UInt8)) : Nat := (layB os).length + (if sd.isSome then 2 else 0)
def roomT (N : Nat) (os : List (Nat × List UInt8 × List UInt8)) (sd : Option (List UInt8)) : Nat := if sd.isSome then 0 else N - (layB os).length - 2
def mayT (N : Nat) (os : List (Nat × List UInt8 × List UInt8)) (sd : Option (List UInt8)) (id b : List UInt8) : Nat :=
  if Rec.nameM id = false then 1 else if 512 < b.length then 5 else if roomT N os sd < 2 + dataN b.length then 3 else 0
def osA (N : Nat) (os : List (Nat × List UInt8 × List UInt8)) (sd : Option (List UInt8)) (id b : List UInt8) : List (Nat × List UInt8 × List UInt8) :=
  if mayT N os sd id b = 0 then os ++ [((layB os).length, id, b)] else os
def xA (dev N : Nat) (os : List (Nat × List UInt8 × List UInt8)) (sd : Option (List UInt8)) (id b : List UInt8) : Value :=
  if mayT N os sd id b = 0 then placeV dev ((layB os).length : Int) ((2 + dataN b.length : Nat) : Int) false else placeV 0 0 0 false
/-- What a place has: the object there. -/
def AnsIs (dev : Nat) (os : List (Nat × List UInt8 × List UInt8)) (x y z : Int) (o : Option (List UInt8 × List UInt8)) : Prop :=
  ∀ id b, o = some (id, b) ↔ x = (dev : Int) ∧ z = ((2 + dataN b.length : Nat) : Int) ∧ ∃ s : Nat, (s, id, b) ∈ os ∧ y = (s : Int)
def sealE (N : Nat) (os : List (Nat × List UInt8 × List UInt8)) (sd : Option (List UInt8)) : Nat := if sd.isSome = true ∨ N - lenT os sd < 2 then 3 else 0
def sealS (N : Nat) (os : List (Nat × List UInt8 × List UInt8)) (sd : Option (List UInt8)) : Option (List UInt8) := if sd.isSome = true ∨ N - lenT os sd < 2 then sd else some (rootOf os)
section
variable {os : List (Nat × List UInt8 × List UInt8)} {sd : Option (List UInt8)} {T : List (List UInt8)}
theorem Tp.lenT (h : Tp os sd T) : T.length = lenT os sd := h.blen.symm
theorem Tp.roomM (h : Tp os sd T) (N : Nat) : Col.roomM N T = roomT N os sd := by
  unfold Col.roomM roomT
  rw [h.rootM, h.lenT]
  unfold Col.lenT
  cases sd with
  | none => rfl
  | some r => rfl
theorem Tp.mayM (h : Tp os sd T) (N : Nat) (id b : List UInt8) : Col.mayM N T id b = mayT N os sd id b := by
  unfold Col.mayM mayT
  rw [h.roomM]
theorem Tp.ans (h : Tp os sd T) (dev : Nat) (x y z : Int) : AnsIs dev os x y z (ansM T dev x y z) := by
  intro id b
  unfold ansM
  constructor
  · intro he
    split at he
    · rename_i hc
      split at he
      · rename_i id' b' ho
        split at he
        · rename_i hz
          injection he with he
          injection he with h1 h2
          subst h1 h2
          have hm := (h.obj _ _ _).1 ho
          have hb := (Ats.name os 0 h.ats hm).2.2.2
          rw [blocksZ_nat hb] at hz
          exact ⟨hc.1, hz.symm, y.toNat, hm, by omega⟩
        · cases he
      · cases he
    · cases he
  · rintro ⟨hx, hz, s, hm, rfl⟩
    have hn := Ats.name os 0 h.ats hm
    have hl := h.blen
    rw [if_pos ⟨hx, by omega, by omega⟩, Int.toNat_natCast, (h.obj s id b).2 hm]
    simp only
    rw [blocksZ_nat hn.2.2.2, if_pos hz.symm]
theorem Tp.append (h : Tp os none T) {id b : List UInt8} (hnm : Rec.nameM id = true) (hb : b.length ≤ 512) (hl : (T ++ putM T.length id b).length ≤ 4096) : Tp (os ++ [((layB os).length, id, b)]) none (T ++ putM T.length id b) := by
  have he : T = layB os := by have := h.eq; simpa using this
  have h2 := Ats.snoc os 0 h.ats hnm hb
  rw [Nat.zero_add] at h2
  refine ⟨h2, ?_, (fun r hr => by cases hr), hl⟩
  rw [layB_snoc, List.append_nil, ← he]
theorem Tp.sealed (h : Tp os none T) {r : List UInt8} (hr : r.length = 32) (hl : (T ++ sealBs T.length r).length ≤ 4096) : Tp os (some r) (T ++ sealBs T.length r) := by
  have he : T = layB os := by have := h.eq; simpa using this
  refine ⟨h.ats, ?_, (fun r' hr' => by injection hr' with hr'; rw [← hr']; exact hr), hl⟩
  rw [he]
theorem Tp.nil_ : Tp [] none [] := ⟨trivial, rfl, (fun r hr => by cases hr), Nat.zero_le _⟩
theorem VS.len {B : Nat} {w : World} {F : Nat → Prop} {a : Nat} {pm : PM} {n v dev N : Nat} {H ws : List (List UInt8)} (h : VS B w F a pm n v dev N H ws) : (H ++ ws).length ≤ 4096 := by
  have := h.room
  rw [List.length_append]
  omega
end
section
variable {B : Nat} {w w1 w' : World} {F F' : Nat → Prop} {a n n' v dev N : Nat} {pm pm' : PM} {os : List (Nat × List UInt8 × List UInt8)} {sd : Option (List UInt8)}
theorem Up.vs {H ws : List (List UInt8)} (h : Up B w F a pm n) (hv : Vb w F v a dev) (ht : TapeP pm dev N H ws) : VS B w F a pm n v dev N H ws := ⟨h.st, ht, hv.1, hv.2, h.on, h.tb.tab, h.tb.gB, h.bs⟩
theorem VS.vb {H ws : List (List UInt8)} (h : VS B w F a pm n v dev N H ws) : Vb w F v a dev := ⟨h.vol, h.nf⟩
theorem TT.els {j : Nat} (h : TT pm dev N os sd) (hf : Frm B w F a pm n j F' pm' w') (hj : dev ≠ j) : TT pm' dev N os sd := by
  obtain ⟨H, ws, ht, hp⟩ := h
  exact ⟨H, ws, hf.els dev N H ws hj ht, hp⟩
theorem Up.append (hu : Up B w F a pm n) (ht : TT pm dev N os sd) (hv : Vb w F v a dev) (hn : n ≤ 900000000) (id : List UInt8) (hid : id.length ≤ 140737488355328)
    (A : Option Addr) (m cap : Nat) (b : List UInt8) (hb : BAt w A b) (hm : b.length = m) (hcap : m ≤ cap) (hm2 : m ≤ 9223372036854775807) (hnil : A = none → cap = 0) :
    Calls Tryd.prog 11 #[.pointer (some ⟨v, 0, none⟩), .string (Rec.S8 id), .slice A m cap] w fun e w' => ∃ F' pm', Frm B w F a pm (n + 12) dev F' pm' w' ∧ Up B w' F' a pm' (n + 12) ∧ Vb w' F' v a dev ∧
      TT pm' dev N (osA N os sd id b) sd ∧ e = .returned (.tuple #[xA dev N os sd id b, .int .i64 (mayT N os sd id b : Int)]) := by
  obtain ⟨H, ws, ht, hp⟩ := ht
  refine (vappend_any (hu.vs hv ht) hn id hid A m cap b hb hm hcap hm2 hnil).mono ?_
  intro e w' h
  unfold AppP at h
  rw [hp.mayM] at h
  rcases h with ⟨err, he, h0, rfl, hbl⟩ | ⟨h0, F', pm', hf, ⟨rfl, hvs⟩ | ⟨k, _, _, _, hfz, _⟩⟩
  · refine ⟨F, pm, ((Frm.refl hu.st).below hbl).more (by omega), (hu.below hbl).more (by omega), hv.below hbl, ?_, ?_⟩
    · unfold osA
      rw [if_neg (by omega)]
      exact ⟨H, ws, ht, hp⟩
    · unfold xA
      rw [if_neg (by omega), he]
  · have hsd : sd = none := by
      cases sd with
      | none => rfl
      | some r =>
        exfalso
        unfold mayT roomT at h0
        rw [if_pos (show (some r).isSome = true from rfl)] at h0
        split at h0
        · omega
        · split at h0
          · omega
          · rw [if_pos (by omega)] at h0
            omega
    subst hsd
    have hmay : Rec.nameM id = true ∧ b.length ≤ 512 := by
      unfold mayT at h0
      split at h0
      · omega
      · rename_i h1
        split at h0
        · omega
        · exact ⟨by simpa using h1, by omega⟩
    have hll : H.length + ws.length = (layB os).length := by
      have := hp.lenT
      rw [List.length_append] at this
      rw [this]
      rfl
    have hlen := hvs.len
    rw [← List.append_assoc, ← List.length_append] at hlen
    refine ⟨F', pm', hf, hu.frm hf hvs.on, hvs.vb, ?_, ?_⟩
    · unfold osA
      rw [if_pos h0]
      refine ⟨H, _, hvs.tp, ?_⟩
      rw [← List.append_assoc, ← List.length_append]
      exact hp.append hmay.1 hmay.2 hlen
    · unfold xA
      rw [if_pos h0, ← hll, h0]
      rfl
  · exact absurd hu.fz hfz
theorem Up.read (hu : Up B w F a pm n) (ht : TT pm dev N os sd) (hv : Vb w F v a dev) (hn : n ≤ 1000000000) (x y z : Int) (bad : Bool) (hyb : y < 9223372036854775808) :
    Calls Tryd.prog 12 #[.pointer (some ⟨v, 0, none⟩), placeV x y z bad] w fun e w' => ∃ o, AnsIs dev os x y z o ∧ RetRd w o e w' := by
  obtain ⟨H, ws, ht, hp⟩ := ht
  exact (vread_any (hu.vs hv ht) hn x y z bad hyb).mono fun e w' h => ⟨_, hp.ans dev x y z, h⟩
theorem Up.root (hu : Up B w F a pm n) (ht : TT pm dev N os sd) (hv : Vb w F v a dev) (hn : n ≤ 1000000000) :
    Calls Tryd.prog 15 #[.pointer (some ⟨v, 0, none⟩)] w fun e w' => e = .returned (.tuple #[.agg (cellsOf (sd.getD z32)), .bool sd.isSome]) ∧ Below w.heap.size w w' := by
  obtain ⟨H, ws, ht, hp⟩ := ht
  have h1 := vroot_any (hu.vs hv ht) hn
  rw [hp.rootM] at h1
  exact h1
theorem Up.room (hu : Up B w F a pm n) (ht : TT pm dev N os sd) (hv : Vb w F v a dev) (hn : n ≤ 1000000000) :
    Calls Tryd.prog 13 #[.pointer (some ⟨v, 0, none⟩)] w fun e w' => e = .returned (.int .i64 (roomT N os sd : Int)) ∧ Below w.heap.size w w' := by
  obtain ⟨H, ws, ht, hp⟩ := ht
  have h1 := vroom_any (hu.vs hv ht) hn
  rw [hp.roomM] at h1
  exact h1
theorem Up.list (hu : Up B w F a pm n) (ht : TT pm dev N os sd) (hv : Vb w F v a dev) (hn : n ≤ 1000000000) :
    Calls Tryd.prog 23 #[.pointer (some ⟨v, 0, none⟩)] w fun e w' => Below w.heap.size w w' ∧ ∃ A cap, e = .returned (.slice A os.length cap) ∧
      Vec w' (fun g => w.heap.size ≤ g) 35 4 (.slice A os.length cap) os.length (placesV dev os) := by
  obtain ⟨H, ws, ht, hp⟩ := ht
  have h1 := vlist_any (hu.vs hv ht) hn
  rw [hp.each] at h1
  exact h1
theorem Up.sealed (hu : Up B w F a pm n) (ht : TT pm dev N os sd) (hv : Vb w F v a dev) (hn : n ≤ 900000000) :
    Calls Tryd.prog 14 #[.pointer (some ⟨v, 0, none⟩)] w fun e w' => ∃ F' pm', Frm B w F a pm (n + 3) dev F' pm' w' ∧ Up B w' F' a pm' (n + 3) ∧ Vb w' F' v a dev ∧
      TT pm' dev N os (sealS N os sd) ∧ e = .returned (.int .i64 (sealE N os sd : Int)) := by
  obtain ⟨H, ws, ht, hp⟩ := ht
  refine (vseal_any (hu.vs hv ht) hn hu.tb.kt (Nat.lt_of_lt_of_le hu.tb.kB hu.bs)).mono ?_
  intro e w' h
  unfold SealP at h
  have hll := hp.lenT
  rw [List.length_append] at hll
  rw [hp.rootM, hll, hp.each] at h
  rcases h with ⟨hc, rfl, hbl⟩ | ⟨h1, h2, F', pm', hf, ⟨rfl, hvs⟩ | ⟨_, hfz, _⟩⟩
  · refine ⟨F, pm, ((Frm.refl hu.st).below hbl).more (by omega), (hu.below hbl).more (by omega), hv.below hbl, ?_, ?_⟩
    · unfold sealS
      rw [if_pos hc]
      exact ⟨H, ws, ht, hp⟩
    · unfold sealE
      rw [if_pos hc]
      rfl
  · have hsd : sd = none := by
      cases sd with
      | none => rfl
      | some r => cases h1
    subst hsd
    have hc : ¬ ((none : Option (List UInt8)).isSome = true ∨ N - Col.lenT os none < 2) := fun h => by
      rcases h with h | h
      · cases h
      · omega
    have hlen := hvs.len
    rw [List.append_nil, ← hll, ← List.length_append] at hlen
    refine ⟨F', pm', hf, hu.frm hf hvs.on, hvs.vb, ?_, ?_⟩
    · unfold sealS
      rw [if_neg hc]
      refine ⟨_, _, hvs.tp, ?_⟩
      rw [List.append_nil, ← hll, ← List.length_append]
      exact hp.sealed (rootOf_len os) hlen
    · unfold sealE
      rw [if_neg hc]
      rfl
  · exact absurd hu.fz hfz
theorem Up.flush (hu : Up B w F a pm n) (ht : TT pm dev N os sd) (hv : Vb w F v a dev) (hn : n ≤ 900000000) :
    Calls Tryd.prog 20 #[.pointer (some ⟨v, 0, none⟩)] w fun e w' => ∃ F' pm', Frm B w F a pm (n + 1) dev F' pm' w' ∧ Up B w' F' a pm' (n + 1) ∧ Vb w' F' v a dev ∧ TT pm' dev N os sd ∧ e = .returned (.int .i64 0) := by
  obtain ⟨H, ws, ht, hp⟩ := ht
  refine (vflush_any (hu.vs hv ht) (by omega)).mono ?_
  rintro e w' ⟨F', pm', hf, ⟨rfl, hvs⟩ | ⟨_, _, hfz, _⟩⟩
  · exact ⟨F', pm', hf, hu.frm hf hvs.on, hvs.vb, ⟨_, _, hvs.tp, by rw [List.append_nil]; exact hp⟩, rfl⟩
  · exact absurd hu.fz hfz
theorem Up.opened (hu : Up B w F a pm n) (ht : TT pm dev N os sd) :
    Calls Tryd.prog 10 #[.pointer (some ⟨a, 0, none⟩), .int .i64 (dev : Int)] w fun e w' => Below w.heap.size w w' ∧ ∃ v, e = .returned (.tuple #[.pointer (some ⟨v, 0, none⟩), .int .i64 0]) ∧ w.heap.size ≤ v ∧ Vb w' F v a dev := by
  obtain ⟨H, ws, ht, hp⟩ := ht
  have h3 := hu.st.ok.tape dev _ ht.dev
  have h4 : pm.disks.length ≤ dev := by simpa using h3.symm
  have h5 := ht.lt
  have h6 := hu.st.ok.shape
  refine (vopen_any (dev : Int) hu.st.at_ hu.st.ok).mono ?_
  rintro e w' ⟨hb, ⟨h, _⟩ | ⟨v, d, hd, _, _, rfl, hv, hvb⟩⟩
  · exact absurd ⟨by omega, by omega⟩ h
  · obtain rfl : dev = d := by omega
    exact ⟨hb, v, rfl, hv, hvb, fun hF => by have := (hu.st.lt v hF).2; omega⟩
theorem Up.opened_no (hu : Up B w F a pm n) (z : Int) (hz : ¬ ((pm.disks.length : Int) ≤ z ∧ z < ((pm.disks.length + pm.tapes.length : Nat) : Int))) :
    Calls Tryd.prog 10 #[.pointer (some ⟨a, 0, none⟩), .int .i64 z] w fun e w' => Below w.heap.size w w' ∧ e = .returned (.tuple #[.pointer none, .int .i64 1]) := by
  refine (vopen_any z hu.st.at_ hu.st.ok).mono ?_
  rintro e w' ⟨hb, ⟨_, h⟩ | ⟨v, d, rfl, h1, h2, _⟩⟩
  · exact ⟨hb, h⟩
  · exact absurd ⟨by omega, by omega⟩ hz
/-- A plant that is made. -/
theorem Up.made {zs1 zs2 : List Int} (hp : PlantAt w' (New w w') a pm) (hb : Below w.heap.size w w') (hB : B ≤ w.heap.size) (htb : Tb B w) (hnew : newM zs1 zs2 = some pm) :
    Up B w' (New w w') a pm 0 := by
  obtain ⟨_, _, _, _, _, _, hon, hfz, _⟩ := newM_ok hnew
  exact ⟨St.new hp hB hnew, hon, hfz, htb.below (hb.mono hB), Nat.le_trans hB hb.size⟩
theorem TT.made {zs1 zs2 : List Int} {j : Nat} {N : Nat} (hnew : newM zs1 zs2 = some pm) (hj : zs2[j]? = some (N : Int)) (hd : dev = zs1.length + j) : TT pm dev N [] none := by
  subst hd
  refine ⟨[], [], ⟨?_, ?_⟩, Tp.nil_⟩
  · unfold newM at hnew
    split at hnew
    · cases hnew
    · injection hnew with hnew
      subst hnew
      have := newDevs_get (zs1 := zs1) (zs2 := zs2) (k := zs1.length + j) (z := (N : Int)) (by rw [List.getElem?_append_right (by omega), Nat.add_sub_cancel_left]; exact hj)
      show (newDevs _ _)[_]? = _
      rw [this]
      unfold devOf
      rw [if_neg (by omega), Int.toNat_natCast]
      simp
  · obtain ⟨_, _, _, hw, _⟩ := newM_ok hnew
    unfold waitsOf
    rw [hw]
    rfl
end
end Go.Proofs.YtloffgoenaomkaaDoor.Col
