/- An argument that is a slice of slices of bytes, opened; its bulk. No program's function is walked here. -/
import Derived.Test.YtamjfcconhihhaaDoorFrameLaws3
import Derived.Test.YtamjfcconhihhaaDoorLaw
namespace Go.Proofs.YtamjfcconhihhaaDoor.Law
open Go.RowKit Go.ChangeShapes Go.WideShapes Go.ChangeAt Mem _root_.Go.Proofs.YtamjfcconhihhaaDoor.Frame
variable {H : Type} {enc : TypeId × Value → H} {P : Program}
theorem bulk_mem {l : List (DataW H)} {d : DataW H} (h : d ∈ l) : Rows.uptoBulk d ≤ Rows.uptoBulkAll l := by
  induction l with
  | nil => cases h
  | cons x r ih =>
    simp only [Rows.uptoBulkAll]
    rcases List.mem_cons.1 h with rfl | h
    · omega
    · have := ih h; omega
/-- A cell that is a slice of bytes. -/
theorem cell_bytes {W : World} {t e : TypeId} {fuel : Nat} {cs : List Value} {x : DataW H × List MemPlace} (ht : P.underlying t = some (.slice e)) (he : P.underlying e = some (.int .u8)) (hc : P.cellsOf e = 1)
    (h : DataW.trod enc P W 0 (fun _ => true) true fuel t cs = some x) :
    ∃ (B : Option Addr) (bs : List UInt8) (c : Nat), cs = [.slice B bs.length c] ∧ BAt W B bs ∧ bs.length ≤ Rows.uptoBulk x.1 := by
  rcases open_ints ht he hc h with ⟨rfl, rfl⟩ | ⟨a, n, cap, zs, rfl, _, hl, hm, hz, rfl, hcell, hwz⟩
  · exact ⟨none, [], 0, rfl, BAt.nil_ _ _, by simp⟩
  · simp only [if_true] at hz
    have hlen : ((zs.take n).map fun z => UInt8.ofNat z.toNat).length = n := by simp; omega
    refine ⟨some a, (zs.take n).map fun z => UInt8.ofNat z.toNat, cap, by rw [hlen], fun _ => ⟨a, rfl, fun k hk => ?_⟩, ?_⟩
    · rw [hlen] at hk
      rw [hcell k (by omega)]
      have hkz : k < zs.length := by omega
      have hw := wf_u8 (hwz zs[k] (List.getElem_mem hkz))
      have hv := V8_ofInt zs[k] hw.1 hw.2
      simp [List.getD, hkz, List.getElem_take, hk]
      exact hv
    · rw [hlen]
      have h1 := bulk_length (lits (H := H) .u8 (zs.take n))
      rw [show (lits (H := H) .u8 (zs.take n)).length = (zs.take n).length from by simp [lits], List.length_take] at h1
      simp only [Rows.uptoBulk]
      omega
theorem list_choose {α : Type} (n : Nat) (Q : Nat → α → Prop) (h : ∀ i, i < n → ∃ x, Q i x) : ∃ l : List α, l.length = n ∧ ∀ (i : Nat) (hi : i < l.length), Q i l[i] := by
  induction n with
  | zero => exact ⟨[], rfl, fun i hi => absurd hi (by simp)⟩
  | succ n ih =>
    obtain ⟨l, hl, hq⟩ := ih fun i hi => h i (by omega)
    obtain ⟨x, hx⟩ := h n (by omega)
    refine ⟨l ++ [x], by simp [hl], fun i hi => ?_⟩
    rcases Nat.lt_or_ge i n with hlt | hge
    · rw [List.getElem_append_left (by omega)]
      exact hq i (by omega)
    · obtain rfl : i = n := by simp [hl] at hi; omega
      simpa [List.getElem_append_right, hl] using hx
/-- A slice of slices of bytes among the arguments. -/
theorem open_rows {W : World} {r : Reach} {b0 : Nat} {t e u : TypeId} {v : Value} {d : DataW H} {ps : List MemPlace} (ht : P.underlying t = some (.slice e)) (he : P.underlying e = some (.slice u)) (hu : P.underlying u = some (.int .u8))
    (hce : P.cellsOf e = 1) (hcu : P.cellsOf u = 1) (hval : Value.okWide P W r b0 t v) (h : DataW.Trod enc P W 0 (fun _ => true) true t v d ps) :
    ∃ (A : Option Addr) (n cap : Nat) (l : List (List UInt8)), v = .slice A n cap ∧ SAt W A l ∧ l.length = n ∧ n ≤ cap ∧ ∀ k, k < l.length → (l.getD k []).length ≤ Rows.uptoBulk d := by
  obtain ⟨A, n, cap, rfl⟩ := okWide_slice ht hval
  obtain ⟨fuel, hf⟩ := h
  rcases DataW.trod_slice ht hf with ⟨hcs, hx⟩ | ⟨a, len, cap', elems, rest, m, _, hcs, hx, _, hl, _, hlen, hel, _, _⟩
  · simp [Value.cells] at hcs
    obtain ⟨rfl, rfl, rfl⟩ := hcs
    exact ⟨none, 0, 0, [], rfl, fun k hk => absurd hk (by simp), rfl, Nat.le_refl _, fun k hk => absurd hk (by simp)⟩
  · simp [Value.cells] at hcs
    obtain ⟨rfl, rfl, rfl⟩ := hcs
    simp only [Prod.mk.injEq] at hx
    obtain ⟨l, hll, hq⟩ := list_choose (α := List UInt8) n (fun i bs => ∃ (B : Option Addr) (c : Nat), W.cell? (a.add i) = some (.slice B bs.length c) ∧ BAt W B bs ∧ bs.length ≤ Rows.uptoBulk d) fun i hi => by
      have h1 := hel i hi
      rw [List.getElem?_eq_getElem (by omega), hce, Nat.mul_one, Option.bind_eq_some_iff] at h1
      obtain ⟨cs', hcs', hy⟩ := h1
      obtain ⟨B, bs, c, rfl, hB, hbk⟩ := cell_bytes he hu hcu hy
      refine ⟨bs, B, c, cell_of_cells?_one hcs', hB, Nat.le_trans hbk ?_⟩
      rw [hx.1]
      have := bulk_mem (l := elems.map (·.1)) (List.mem_map.2 ⟨elems[i], List.getElem_mem (by omega), rfl⟩)
      simp only [Rows.uptoBulk]
      omega
    have hg : ∀ k (hk : k < l.length), l.getD k [] = l[k] := fun k hk => by simp [List.getD, hk]
    refine ⟨some a, n, cap, l, rfl, fun k hk => ?_, hll, hl, fun k hk => ?_⟩
    · obtain ⟨B, c, h1, h2, h3⟩ := hq k hk
      exact ⟨a, B, c, rfl, by rw [hg k hk]; exact h1, by rw [hg k hk]; exact h2⟩
    · obtain ⟨B, c, h1, h2, h3⟩ := hq k hk
      rw [hg k hk]; exact h3
end Go.Proofs.YtamjfcconhihhaaDoor.Law
