/- A byte turned on the disk: what is then read of an object. No program. -/
import Derived.Test.YtgcckfaljfkkhaaDoorHotOps
import Derived.Test.YtgcckfaljfkkhaaDoorFold5
namespace Go.Proofs.YtgcckfaljfkkhaaDoor.Hot
open Go Go.RowKit Mem Pl Disk Crc _root_.Go.Proofs.YtgcckfaljfkkhaaDoor.Frame
theorem unpack_more {t r : List UInt8} {n : Nat} (hn : be (t.take 4) = n) (hl : t.length = n + 9) (h : unpackM t = none) : unpackM (t ++ r) = none := by
  have e4 : (t ++ r).take 4 = t.take 4 := List.take_append_of_le_length (by omega)
  have e5 : (t ++ r).take (5 + n) = t.take (5 + n) := List.take_append_of_le_length (by omega)
  have e6 : ((t ++ r).drop (5 + n)).take 4 = (t.drop (5 + n)).take 4 := by
    rw [List.drop_append_of_le_length (by omega), List.take_append_of_le_length (by rw [List.length_drop]; omega)]
  unfold unpackM at h ⊢
  rw [e4, hn, e5, e6]
  rw [hn, if_neg (by omega), if_neg (by omega)] at h
  rw [if_neg (by rw [List.length_append]; omega), if_neg (by rw [List.length_append]; omega)]
  split at h
  · rename_i hc
    rw [if_pos hc]
  · cases h
theorem chunk_set (t : List UInt8) (p j : Nat) (v : UInt8) (hj : 64 * j ≤ p) : chunkM (t.set p v) j = (chunkM t j).set (p - 64 * j) v := by
  unfold chunkM
  rw [List.drop_set, if_neg (by omega), List.take_set]
theorem chunk_far (t : List UInt8) (p j : Nat) (v : UInt8) (hj : p < 64 * j ∨ 64 * j + 64 ≤ p) : chunkM (t.set p v) j = chunkM t j := by
  rcases hj with h | h
  · unfold chunkM
    rw [List.drop_set, if_pos h]
  · rw [chunk_set t p j v (by omega), List.set_eq_of_length_le (by unfold chunkM; rw [List.length_take]; omega)]
theorem chunk_byte (t : List UInt8) (j q : Nat) (hq : q < 64) : (chunkM t j).getD q 0 = t.getD (64 * j + q) 0 := by
  unfold chunkM
  simp only [List.getD_eq_getElem?_getD]
  rw [List.getElem?_take_of_lt hq, List.getElem?_drop]
theorem holds_turned {Hs : List (List UInt8)} {u : Pc} {t : List UInt8} {at_ turn : Nat} {x : UInt8} (hh : Holds Hs u t) (h1 : u.1 ≤ at_) (h2 : at_ < u.1 + u.2) (h3 : turn < 64) (hl : at_ < Hs.length) :
    Holds (Hs.set at_ ((Hs.getD at_ zeros).set turn (((Hs.getD at_ zeros).getD turn 0) ^^^ x))) u (t.set (64 * (at_ - u.1) + turn) (t.getD (64 * (at_ - u.1) + turn) 0 ^^^ x)) := fun j hj => by
  have h0 : Hs.getD at_ zeros = chunkM t (at_ - u.1) := by
    have := hh (at_ - u.1) (by omega)
    rw [show u.1 + (at_ - u.1) = at_ by omega] at this
    rw [List.getD_eq_getElem?_getD, this]
    rfl
  rw [h0, chunk_byte t _ _ h3]
  by_cases he : u.1 + j = at_
  · have hj' : at_ - u.1 = j := by omega
    rw [he, hj', List.getElem?_set_self hl, chunk_set _ _ _ _ (by omega), show 64 * j + turn - 64 * j = turn by omega]
  · rw [List.getElem?_set_ne (by omega), hh j hj, chunk_far _ _ _ _ (by omega)]
theorem readM_text {K : List (List UInt8)} {u : Pc} {t : List UInt8} (h : Holds K u t) (hl : t.length = 64 * u.2) : readM K u = match unpackM t with
    | some (k, b, _) => if k = 1 ∧ costM b.length = u.2 then some b else none
    | none => none := by
  unfold readM
  rw [show joinH K u.1 u.2 = t from (joinH_holds h _ (Nat.le_refl _)).trans (joinM_all hl)]
  rcases unpackM t with _ | ⟨k, b, q⟩ <;> rfl
/-- One byte turned: an object is read as it was, or it lies there and is corrupt, or one of its first four bytes turned. -/
theorem rots_plain {Hs : List (List UInt8)} {u : Pc} {b : List UInt8} {at_ turn : Nat} {x : UInt8} (hb : b.length ≤ 512) (hc : u.2 = costM b.length) (hh : Holds Hs u (textM b)) (h3 : turn < 64) (hl : at_ < Hs.length) :
    readM (Hs.set at_ ((Hs.getD at_ zeros).set turn (((Hs.getD at_ zeros).getD turn 0) ^^^ x))) u = some b ∨
    (u.1 ≤ at_ ∧ at_ < u.1 + u.2) ∧ (readM (Hs.set at_ ((Hs.getD at_ zeros).set turn (((Hs.getD at_ zeros).getD turn 0) ^^^ x))) u = none ∨
      (at_ = u.1 ∧ turn < 4) ∧ ∃ b', readM (Hs.set at_ ((Hs.getD at_ zeros).set turn (((Hs.getD at_ zeros).getD turn 0) ^^^ x))) u = some b' ∧ b'.length ≤ 512) := by
  have htl := textM_len b
  by_cases hhit : u.1 ≤ at_ ∧ at_ < u.1 + u.2
  · obtain ⟨h1, h2⟩ := hhit
    have hK := holds_turned (x := x) hh h1 h2 h3 hl
    generalize Hs.set at_ ((Hs.getD at_ zeros).set turn (((Hs.getD at_ zeros).getD turn 0) ^^^ x)) = K at *
    obtain ⟨p, hp⟩ : ∃ p, 64 * (at_ - u.1) + turn = p := ⟨_, rfl⟩
    rw [hp] at hK
    have hpl : p < (textM b).length := by rw [htl, ← hc]; omega
    have hread := readM_text hK (by rw [List.length_set, htl, hc])
    have hpk := pack_length 1 b
    by_cases hp4 : p < 4
    · refine .inr ⟨⟨h1, h2⟩, ?_⟩
      cases hr : readM K u with
      | none => exact .inl rfl
      | some b' =>
        refine .inr ⟨⟨by omega, by omega⟩, b', rfl, ?_⟩
        unfold readM at hr
        split at hr
        · split at hr
          · rename_i hk
            injection hr with hr
            subst hr
            have h5 := hk.2
            have h6 := (cost_le hb).2
            rw [hc] at h5
            unfold costM at h5 h6
            omega
          · cases hr
        · cases hr
    · by_cases hx : x = 0
      · left
        have e : (textM b).set p ((textM b).getD p 0 ^^^ x) = textM b := by
          rw [hx, UInt8.xor_zero, List.getD_eq_getElem?_getD, List.getElem?_eq_getElem hpl]
          simp
        rw [hread, e, unpack_text hb]
        simp [hc]
      · by_cases hpad : b.length + 9 ≤ p
        · left
          have e : (textM b).set p ((textM b).getD p 0 ^^^ x) = pack 1 b ++ (List.replicate (64 * costM b.length - (b.length + 9)) 0).set (p - (pack 1 b).length) ((textM b).getD p 0 ^^^ x) := by
            conv => lhs; arg 1; unfold textM
            rw [List.set_append_right _ _ (by omega)]
          rw [hread, e, unpack_pack 1 b _ (by omega)]
          simp [hc]
        · refine .inr ⟨⟨h1, h2⟩, .inl ?_⟩
          have hg : (textM b).getD p 0 = (pack 1 b).getD p 0 := by
            unfold textM
            rw [List.getD_eq_getElem?_getD, List.getElem?_append_left (by omega), ← List.getD_eq_getElem?_getD]
          have e : (textM b).set p ((textM b).getD p 0 ^^^ x) = (pack 1 b).set p ((pack 1 b).getD p 0 ^^^ x) ++ List.replicate (64 * costM b.length - (b.length + 9)) 0 := by
            rw [hg]
            conv => lhs; arg 1; unfold textM
            rw [List.set_append_left _ _ (by omega)]
          have h4 : ((pack 1 b).set p ((pack 1 b).getD p 0 ^^^ x)).take 4 = beB b.length 4 := by
            rw [List.take_set_of_le (by omega), pack_eq, List.take_left' (beB_length _ _)]
          rw [hread, e, unpack_more (n := b.length) (by rw [h4, be_beB4 _ (by omega)]) (by rw [List.length_set, hpk]) (unpack_turned 1 b p x (by omega) (by omega) (by omega) hx)]
  · left
    have hK : Holds (Hs.set at_ ((Hs.getD at_ zeros).set turn (((Hs.getD at_ zeros).getD turn 0) ^^^ x))) u (textM b) := fun j hj => by
      rw [List.getElem?_set_ne (by omega)]
      exact hh j hj
    have e : u = (u.1, costM b.length) := by rw [← hc]
    rw [e] at hK ⊢
    exact readM_holds hb hK
end Go.Proofs.YtgcckfaljfkkhaaDoor.Hot
