/- Opening a law's argument that is a shape. -/
import Derived.Test.YtomncfiklkhfjaaPlRow
namespace Go.Proofs.Ytomncfiklkhfjaa.Pl
open Go.ChangeShapes Go.WideShapes Go.ChangeAt Go.RowKit Mem Law
theorem cellsIS : Try.prog.cellsOf 42 = 1 := by kernel_rfl
theorem cellsShape : Try.prog.cellsOf 44 = 2 := by kernel_rfl
variable {H : Type} {enc : TypeId × Value → H}
theorem open_is_cells {P : Program} {enc : TypeId × Value → H} {W : World} {t e : TypeId} {cs : List Value} {fuel : Nat} {x : DataW H × List MemPlace} (ht : P.underlying t = some (.slice e)) (he : P.underlying e = some (.int .i64)) (hc : P.cellsOf e = 1)
    (hf : DataW.trod enc P W 0 (fun _ => true) true fuel t cs = some x) :
    ∃ (A : Option Addr) (n cap : Nat) (zs : List Int), cs = [.slice A n cap] ∧ IAt W A zs ∧ zs.length = n ∧ n ≤ cap ∧ cap ≤ maxLen ∧ n ≤ Rows.uptoBulk x.1 := by
  rcases open_ints ht he hc hf with ⟨hcs, hx⟩ | ⟨a, n', cap', zs, hcs, _, hl, hm, hz, hx, hcell, hwz⟩
  · exact ⟨none, 0, 0, [], hcs, .inl rfl, rfl, Nat.le_refl _, by unfold maxLen; omega, Nat.zero_le _⟩
  · simp only [if_true] at hz
    refine ⟨some a, n', cap', zs.take n', hcs, .inr ⟨a, rfl, fun k z hk => ?_⟩, by simp; omega, hl, hm, ?_⟩
    · obtain ⟨hk1, hk2⟩ := List.getElem?_eq_some_iff.1 hk
      rw [List.length_take] at hk1
      rw [hcell k (by omega)]
      rw [List.getElem_take] at hk2
      have hkz : k < zs.length := by omega
      rw [List.getD_eq_getElem?_getD, List.getElem?_eq_getElem hkz, hk2]
      rfl
    · subst hx
      have h1 := bulk_length (lits (H := H) .i64 (zs.take n'))
      rw [show (lits (H := H) .i64 (zs.take n')).length = (zs.take n').length from by simp [lits], List.length_take] at h1
      simp only [Rows.uptoBulk]
      omega
set_option maxRecDepth 100000 in
theorem open_shape {W : World} {r : Reach} {b0 : Nat} {v : Value} {d : DataW H} {ps : List MemPlace} (hval : Value.okWide Try.prog W r b0 44 v) (h : DataW.Trod enc Try.prog W 0 (fun _ => true) true 44 v d ps) :
    ∃ (A1 A2 : Option Addr) (n1 n2 k1 k2 : Nat) (zs1 zs2 : List Int), v = .agg #[.slice A1 n1 k1, .slice A2 n2 k2] ∧ IAt W A1 zs1 ∧ IAt W A2 zs2 ∧ zs1.length = n1 ∧ zs2.length = n2 ∧ n1 + n2 ≤ Rows.uptoBulk d := by
  obtain ⟨cs, rfl, hsz⟩ := okWide_struct Try.underlying44 hval
  rw [cellsShape] at hsz
  obtain ⟨fuel, hf⟩ := h
  have hvc : (Value.agg cs).cells.toList = cs.toList := rfl
  rw [hvc] at hf
  obtain ⟨xs, k, _, hx, hl, hlen, hf⟩ := DataW.trod_struct Try.underlying44 hf
  obtain ⟨cs⟩ := cs
  simp only [List.size_toArray] at hsz
  match xs, hlen with
  | [y0, y1], _ =>
    simp only at hf
    have g0 : DataW.trod enc Try.prog W 0 (fun _ => true) true k 42 ((cs.drop 0).take (Try.prog.cellsOf 42)) = some y0 := hf 0 _ rfl
    have g1 : DataW.trod enc Try.prog W 0 (fun _ => true) true k 42 ((cs.drop 1).take (Try.prog.cellsOf 42)) = some y1 := hf 1 _ rfl
    rw [cellsIS] at g0 g1
    obtain ⟨A1, n1, k1, zs1, e0, hz1, hl1, _, _, b1⟩ := open_is_cells Try.underlying42 Try.underlying3 cellsI64 g0
    obtain ⟨A2, n2, k2, zs2, e1, hz2, hl2, _, _, b2⟩ := open_is_cells Try.underlying42 Try.underlying3 cellsI64 g1
    refine ⟨A1, A2, n1, n2, k1, k2, zs1, zs2, ?_, hz1, hz2, hl1, hl2, ?_⟩
    · match cs, hsz with
      | [c0, c1], _ =>
        simp at e0 e1
        rw [e0, e1]
    · simp only [Prod.mk.injEq] at hx
      rw [hx.1]
      simp only [List.map_cons, List.map_nil, Rows.uptoBulk, Rows.uptoBulkAll]
      omega
end Go.Proofs.Ytomncfiklkhfjaa.Pl
