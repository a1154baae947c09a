/- Opening a law's arguments of numbers. -/
import Derived.Test.YtomncfiklkhfjaaPlainKit
import Derived.Test.YtomncfiklkhfjaaPlConcat
namespace Go.Proofs.Ytomncfiklkhfjaa.Pl
open Go.ChangeShapes Go.WideShapes Go.ChangeAt Go.RowKit Mem Law
theorem cellsI64 : Try.prog.cellsOf 3 = 1 := by kernel_rfl
variable {P : Program} {H : Type} {enc : TypeId × Value → H}
theorem open_is {W : World} {r : Reach} {b0 : Nat} {t e : TypeId} {v : Value} {d : DataW H} {ps : List MemPlace} (ht : P.underlying t = some (.slice e)) (he : P.underlying e = some (.int .i64)) (hc : P.cellsOf e = 1)
    (hval : Value.okWide P W r b0 t v) (h : DataW.Trod enc P W 0 (fun _ => true) true t v d ps) :
    ∃ (A : Option Addr) (n cap : Nat) (zs : List Int), v = .slice A n cap ∧ IAt W A zs ∧ zs.length = n ∧ n ≤ cap ∧ cap ≤ maxLen := by
  obtain ⟨A, n, cap, rfl⟩ := okWide_slice ht hval
  obtain ⟨fuel, hf⟩ := h
  rcases open_ints ht he hc hf with ⟨hcs, hx⟩ | ⟨a, n', cap', zs, hcs, _, hl, hm, hz, hx, hcell, hwz⟩
  · simp [Value.cells] at hcs
    obtain ⟨rfl, rfl, rfl⟩ := hcs
    exact ⟨none, 0, 0, [], rfl, .inl rfl, rfl, Nat.le_refl _, by unfold maxLen; omega⟩
  · simp [Value.cells] at hcs
    obtain ⟨rfl, rfl, rfl⟩ := hcs
    simp only [if_true] at hz
    refine ⟨some a, n, cap, zs.take n, rfl, .inr ⟨a, rfl, fun k z hk => ?_⟩, by simp; omega, hl, hm⟩
    obtain ⟨hk1, hk2⟩ := List.getElem?_eq_some_iff.1 hk
    rw [List.length_take] at hk1
    rw [hcell k (by omega)]
    rw [List.getElem_take] at hk2
    have hkz : k < zs.length := by omega
    rw [List.getD_eq_getElem?_getD, List.getElem?_eq_getElem hkz, hk2]
    rfl
end Go.Proofs.Ytomncfiklkhfjaa.Pl
