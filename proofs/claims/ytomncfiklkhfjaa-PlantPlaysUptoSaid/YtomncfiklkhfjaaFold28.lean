/- What every law's row shares: a call that returns true and leaves all that was there meets the row's post; arguments opened to bytes and numbers. No program's function is walked here. -/
import Derived.Test.YtomncfiklkhfjaaFold0
import Derived.ProofKit
import Derived.OpenShut
import Derived.WideKeyArgs
import Derived.Deep.DeepHandedRow
import Derived.Deep.Slices
import Derived.Test.YtomncfiklkhfjaaFold5
import Derived.Test.YtomncfiklkhfjaaFold22
namespace Go.Proofs.Ytomncfiklkhfjaa.Law
open Go.RowKit Go.ChangeShapes Go.WideShapes Go.ChangeAt Mem
section
variable {H : Type} {enc : TypeId × Value → H} {P : Program}

theorem trodAll_stays (hl : laidOutB P = true) {W W' : World} (hb : Below W.heap.size W W') :
    ∀ (ts : List TypeId) (vs : List Value) (ds : List (DataW H)) (ps : List MemPlace), (∀ t ∈ ts, P.readableRec t = true ∧ t < P.types.size) →
      DataW.TrodAll enc P W 0 (fun _ => true) true ts vs ds ps → (∀ p ∈ ps, p.block < W.heap.size) → ∀ sp : Nat → Bool, (∀ p ∈ ps, sp p.block = true) →
      DataW.TrodAll enc P W' 0 sp true ts vs ds ps
  | [], [], [], ps, _, h, _, _, _ => h
  | t :: ts, v :: vs, d :: ds, ps, hr, h, hlt, sp, hsp => by
    obtain ⟨p, q, hp, hq, rfl⟩ := h
    refine ⟨p, q, ?_, trodAll_stays hl hb ts vs ds q (fun t ht => hr t (List.mem_cons_of_mem _ ht)) hq (fun x hx => hlt x (List.mem_append_right _ hx)) sp (fun x hx => hsp x (List.mem_append_right _ hx)), rfl⟩
    exact WideElems.Trod_stays hl (hr t (List.mem_cons_self ..)).1 (hr t (List.mem_cons_self ..)).2 hp (fun x hx => hb.same (hlt x (List.mem_append_left _ hx))) (fun x hx => hsp x (List.mem_append_left _ hx))
  | [], [], _ :: _, _, _, h, _, _, _ => h.elim
  | [], _ :: _, _, _, _, h, _, _, _ => h.elim
  | _ :: _, [], _, _, _, h, _, _, _ => h.elim
  | _ :: _, _ :: _, [], _, _, h, _, _, _ => h.elim

/-- A LAW's END: it returned true, and all that was there is as it was. -/
theorem post_law {f : Func} {s : ChangeSpec} {apart : Bool} {W W' : World} {args : Array Value} {ds gs : List (DataW H)} {before : List MemPlace} {tb : TypeId}
    (hW : DataW.Whole enc P f.params.toList s.vars apart W args.toList ds gs before) (hv : s.vars = []) (hres : f.resultTypes = #[tb]) (htb : P.underlying tb = some .bool)
    (hfn : s.fn H (ds ++ gs) = { results := [.lit (.bool true)], args := ds }) (hl : laidOutB P = true) (hr : ∀ t ∈ f.params.toList, P.readableRec t = true ∧ t < P.types.size)
    (hb : Below W.heap.size W W') : s.post enc P f apart true false false W args (.bool true) W' := by
  have hlt : ∀ p ∈ before, p.block < W.heap.size := fun p hp => hW.lt p hp
  have hW' := hW
  obtain ⟨p, q, hA, hV, rfl, _, _⟩ := hW
  rw [hv] at hV
  obtain ⟨rfl, rfl⟩ := trodVars_none hV
  refine ⟨ds, [], p ++ [], [], p, [], hW', ?_, ?_, ?_, World.keptBut_mono (fun x hx => ⟨hx, ?_⟩) (hb.frame (· ∈ p ++ [])), fun h => by cases h⟩
  · rw [hfn, hres]
    exact trodAll_mk1 (shut_bool htb true)
  · rw [hfn]
    exact trodAll_stays hl hb _ _ _ _ hr hA (fun x hx => hlt x (List.mem_append_left _ hx)) _ (fun x hx => by simpa using hlt x (List.mem_append_left _ hx))
  · rw [hfn, hv]; rfl
  · exact .inr (.inl (by simpa using hx))

theorem wf_u8 {n : Int} (h : (Lit.int .u8 n).wf = true) : 0 ≤ n ∧ n < 256 := by
  simp [Lit.wf, IntKind.min, IntKind.max, IntKind.signed, IntKind.bits] at h
  omega
/-- A slice of bytes among the arguments. -/
theorem open_bytes {W : World} {r : Reach} {b0 : Nat} {t e : TypeId} {v : Value} {d : DataW H} {ps : List MemPlace} (ht : P.underlying t = some (.slice e)) (he : P.underlying e = some (.int .u8)) (hc : P.cellsOf e = 1)
    (hval : Value.okWide P W r b0 t v) (h : DataW.Trod enc P W 0 (fun _ => true) true t v d ps) :
    ∃ (A : Option Addr) (n cap : Nat) (bs : List UInt8), v = .slice A n cap ∧ BAt W A bs ∧ bs.length = n ∧ n ≤ cap ∧ cap ≤ maxLen ∧
      ((A = none ∧ cap = 0 ∧ d = .nil) ∨ ∃ zs : List Int, d = .slice (lits .u8 (zs.take n)) (lits .u8 (zs.drop n)) ∧ zs.length = cap) := by
  obtain ⟨A, n, cap, rfl⟩ := okWide_slice ht hval
  obtain ⟨fuel, hf⟩ := h
  rcases open_ints ht he hc hf with ⟨hcs, hx⟩ | ⟨a, n', cap', zs, hcs, _, hl, hm, hz, hx, hcell, hwz⟩
  · simp [Value.cells] at hcs
    obtain ⟨rfl, rfl, rfl⟩ := hcs
    simp only [Prod.mk.injEq] at hx
    exact ⟨none, 0, 0, [], rfl, BAt.nil_ _ _, rfl, Nat.le_refl _, by unfold maxLen; omega, .inl ⟨rfl, rfl, hx.1⟩⟩
  · simp [Value.cells] at hcs
    obtain ⟨rfl, rfl, rfl⟩ := hcs
    simp only [Prod.mk.injEq] at hx
    simp only [if_true] at hz
    refine ⟨some a, n, cap, (zs.take n).map fun z => UInt8.ofNat z.toNat, rfl, fun _ => ⟨a, rfl, fun k hk => ?_⟩, by simp; omega, hl, hm, .inr ⟨zs, hx.1, hz⟩⟩
    simp at hk
    rw [hcell k (by omega)]
    have hkz : k < zs.length := by omega
    have hw := wf_u8 (hwz zs[k] (List.getElem_mem hkz))
    have hv := V8_ofInt zs[k] hw.1 hw.2
    simp [List.getD, hkz, List.getElem_take, hk]
    exact hv
theorem wf_u32 {n : Int} (h : (Lit.int .u32 n).wf = true) : 0 ≤ n ∧ n < 4294967296 := by
  simp [Lit.wf, IntKind.min, IntKind.max, IntKind.signed, IntKind.bits] at h
  omega
theorem wf_u64 {n : Int} (h : (Lit.int .u64 n).wf = true) : 0 ≤ n ∧ n < 18446744073709551616 := by
  simp [Lit.wf, IntKind.min, IntKind.max, IntKind.signed, IntKind.bits] at h
  omega
theorem wf_i64 {n : Int} (h : (Lit.int .i64 n).wf = true) : -9223372036854775808 ≤ n ∧ n < 9223372036854775808 := by
  simp [Lit.wf, IntKind.min, IntKind.max, IntKind.signed, IntKind.bits] at h
  omega
/-! ### The form's own reach -/
theorem reach_cons {t : TypeId} {ts : List TypeId} {d : DataW H} {ds : List (DataW H)} (h : (DataW.weightsEach P (t :: ts) (d :: ds)).all (· ≤ reachBytes) = true) :
    (d.weights P t).all (· ≤ reachBytes) = true ∧ (DataW.weightsEach P ts ds).all (· ≤ reachBytes) = true := by
  simp only [DataW.weightsEach, List.all_append, Bool.and_eq_true] at h
  exact h
theorem reach_bytes {t e : TypeId} {A : Option Addr} {n cap : Nat} {d : DataW H} (ht : P.underlying t = some (.slice e)) (hb : P.bytesOf e = 1) (hn : n ≤ cap)
    (hd : (A = none ∧ cap = 0 ∧ d = .nil) ∨ ∃ zs : List Int, d = .slice (lits .u8 (zs.take n)) (lits .u8 (zs.drop n)) ∧ zs.length = cap)
    (h : (d.weights P t).all (· ≤ reachBytes) = true) : cap ≤ 140737488351232 := by
  rcases hd with ⟨_, rfl, _⟩ | ⟨zs, rfl, rfl⟩
  · omega
  · simp only [DataW.weights, ht, hb, List.all_cons, Bool.and_eq_true, decide_eq_true_eq] at h
    have h1 := h.1
    simp [lits, reachBytes] at h1
    omega
/-! ### The bound of the second form -/
theorem bulk_one {d : DataW H} : 1 ≤ Rows.uptoBulk d := by
  cases d with
  | lit l => cases l <;> simp [Rows.uptoBulk]
  | nil => simp [Rows.uptoBulk]
  | ptr d => simp [Rows.uptoBulk]
  | slice elems spare => simp [Rows.uptoBulk]
  | agg parts => simp [Rows.uptoBulk]
  | iface t d => simp [Rows.uptoBulk]
  | map entries => simp [Rows.uptoBulk]
  | held _ => simp [Rows.uptoBulk]
theorem bulk_length (l : List (DataW H)) : l.length ≤ Rows.uptoBulkAll l := by
  induction l with
  | nil => simp [Rows.uptoBulkAll]
  | cons x r ih => have := bulk_one (d := x); simp only [Rows.uptoBulkAll, List.length_cons]; omega
theorem bulk_bytes {A : Option Addr} {n cap : Nat} {d : DataW H} (hn : n ≤ cap)
    (hd : (A = none ∧ cap = 0 ∧ d = .nil) ∨ ∃ zs : List Int, d = .slice (lits .u8 (zs.take n)) (lits .u8 (zs.drop n)) ∧ zs.length = cap) : cap ≤ Rows.uptoBulk d := by
  rcases hd with ⟨_, rfl, _⟩ | ⟨zs, rfl, rfl⟩
  · omega
  · have h1 := bulk_length (lits (H := H) .u8 (zs.take n))
    have h2 := bulk_length (lits (H := H) .u8 (zs.drop n))
    rw [show (lits (H := H) .u8 (zs.take n)).length = (zs.take n).length from by simp [lits]] at h1
    rw [show (lits (H := H) .u8 (zs.drop n)).length = (zs.drop n).length from by simp [lits]] at h2
    rw [List.length_take] at h1
    rw [List.length_drop] at h2
    simp only [Rows.uptoBulk]
    omega
end
end Go.Proofs.Ytomncfiklkhfjaa.Law
/- What the rows of laws without a listed variable share: closed facts of the program. -/
namespace Go.Proofs.Ytomncfiklkhfjaa.Law
theorem own : ownKnob Try.prog.godebug = none := by kernel_rfl
theorem laidOut : laidOutB Try.prog = true := by kernel_rfl
theorem cellsU8 : Try.prog.cellsOf 5 = 1 := by kernel_rfl
theorem bytesU8 : Try.prog.bytesOf 5 = 1 := by kernel_rfl
end Go.Proofs.Ytomncfiklkhfjaa.Law
/- Opening a law's arguments of numbers. -/
namespace Go.Proofs.Ytomncfiklkhfjaa.Pl
open Go.ChangeShapes Go.WideShapes Go.ChangeAt Go.RowKit Mem Law
theorem cellsI64 : Try.prog.cellsOf 3 = 1 := by kernel_rfl
variable {P : Program} {H : Type} {enc : TypeId × Value → H}
theorem open_is {W : World} {r : Reach} {b0 : Nat} {t e : TypeId} {v : Value} {d : DataW H} {ps : List MemPlace} (ht : P.underlying t = some (.slice e)) (he : P.underlying e = some (.int .i64)) (hc : P.cellsOf e = 1)
    (hval : Value.okWide P W r b0 t v) (h : DataW.Trod enc P W 0 (fun _ => true) true t v d ps) :
    ∃ (A : Option Addr) (n cap : Nat) (zs : List Int), v = .slice A n cap ∧ IAt W A zs ∧ zs.length = n ∧ n ≤ cap ∧ cap ≤ maxLen := by
  obtain ⟨A, n, cap, rfl⟩ := okWide_slice ht hval
  obtain ⟨fuel, hf⟩ := h
  rcases open_ints ht he hc hf with ⟨hcs, hx⟩ | ⟨a, n', cap', zs, hcs, _, hl, hm, hz, hx, hcell, hwz⟩
  · simp [Value.cells] at hcs
    obtain ⟨rfl, rfl, rfl⟩ := hcs
    exact ⟨none, 0, 0, [], rfl, .inl rfl, rfl, Nat.le_refl _, by unfold maxLen; omega⟩
  · simp [Value.cells] at hcs
    obtain ⟨rfl, rfl, rfl⟩ := hcs
    simp only [if_true] at hz
    refine ⟨some a, n, cap, zs.take n, rfl, .inr ⟨a, rfl, fun k z hk => ?_⟩, by simp; omega, hl, hm⟩
    obtain ⟨hk1, hk2⟩ := List.getElem?_eq_some_iff.1 hk
    rw [List.length_take] at hk1
    rw [hcell k (by omega)]
    rw [List.getElem_take] at hk2
    have hkz : k < zs.length := by omega
    rw [List.getD_eq_getElem?_getD, List.getElem?_eq_getElem hkz, hk2]
    rfl
end Go.Proofs.Ytomncfiklkhfjaa.Pl
/- Opening a law's argument that is a shape. -/
namespace Go.Proofs.Ytomncfiklkhfjaa.Pl
open Go.ChangeShapes Go.WideShapes Go.ChangeAt Go.RowKit Mem Law
theorem cellsIS : Try.prog.cellsOf 42 = 1 := by kernel_rfl
theorem cellsShape : Try.prog.cellsOf 44 = 2 := by kernel_rfl
variable {H : Type} {enc : TypeId × Value → H}
theorem open_is_cells {P : Program} {enc : TypeId × Value → H} {W : World} {t e : TypeId} {cs : List Value} {fuel : Nat} {x : DataW H × List MemPlace} (ht : P.underlying t = some (.slice e)) (he : P.underlying e = some (.int .i64)) (hc : P.cellsOf e = 1)
    (hf : DataW.trod enc P W 0 (fun _ => true) true fuel t cs = some x) :
    ∃ (A : Option Addr) (n cap : Nat) (zs : List Int), cs = [.slice A n cap] ∧ IAt W A zs ∧ zs.length = n ∧ n ≤ cap ∧ cap ≤ maxLen ∧ n ≤ Rows.uptoBulk x.1 := by
  rcases open_ints ht he hc hf with ⟨hcs, hx⟩ | ⟨a, n', cap', zs, hcs, _, hl, hm, hz, hx, hcell, hwz⟩
  · exact ⟨none, 0, 0, [], hcs, .inl rfl, rfl, Nat.le_refl _, by unfold maxLen; omega, Nat.zero_le _⟩
  · simp only [if_true] at hz
    refine ⟨some a, n', cap', zs.take n', hcs, .inr ⟨a, rfl, fun k z hk => ?_⟩, by simp; omega, hl, hm, ?_⟩
    · obtain ⟨hk1, hk2⟩ := List.getElem?_eq_some_iff.1 hk
      rw [List.length_take] at hk1
      rw [hcell k (by omega)]
      rw [List.getElem_take] at hk2
      have hkz : k < zs.length := by omega
      rw [List.getD_eq_getElem?_getD, List.getElem?_eq_getElem hkz, hk2]
      rfl
    · subst hx
      have h1 := bulk_length (lits (H := H) .i64 (zs.take n'))
      rw [show (lits (H := H) .i64 (zs.take n')).length = (zs.take n').length from by simp [lits], List.length_take] at h1
      simp only [Rows.uptoBulk]
      omega
set_option maxRecDepth 100000 in
theorem open_shape {W : World} {r : Reach} {b0 : Nat} {v : Value} {d : DataW H} {ps : List MemPlace} (hval : Value.okWide Try.prog W r b0 44 v) (h : DataW.Trod enc Try.prog W 0 (fun _ => true) true 44 v d ps) :
    ∃ (A1 A2 : Option Addr) (n1 n2 k1 k2 : Nat) (zs1 zs2 : List Int), v = .agg #[.slice A1 n1 k1, .slice A2 n2 k2] ∧ IAt W A1 zs1 ∧ IAt W A2 zs2 ∧ zs1.length = n1 ∧ zs2.length = n2 ∧ n1 + n2 ≤ Rows.uptoBulk d := by
  obtain ⟨cs, rfl, hsz⟩ := okWide_struct Try.underlying44 hval
  rw [cellsShape] at hsz
  obtain ⟨fuel, hf⟩ := h
  have hvc : (Value.agg cs).cells.toList = cs.toList := rfl
  rw [hvc] at hf
  obtain ⟨xs, k, _, hx, hl, hlen, hf⟩ := DataW.trod_struct Try.underlying44 hf
  obtain ⟨cs⟩ := cs
  simp only [List.size_toArray] at hsz
  match xs, hlen with
  | [y0, y1], _ =>
    simp only at hf
    have g0 : DataW.trod enc Try.prog W 0 (fun _ => true) true k 42 ((cs.drop 0).take (Try.prog.cellsOf 42)) = some y0 := hf 0 _ rfl
    have g1 : DataW.trod enc Try.prog W 0 (fun _ => true) true k 42 ((cs.drop 1).take (Try.prog.cellsOf 42)) = some y1 := hf 1 _ rfl
    rw [cellsIS] at g0 g1
    obtain ⟨A1, n1, k1, zs1, e0, hz1, hl1, _, _, b1⟩ := open_is_cells Try.underlying42 Try.underlying3 cellsI64 g0
    obtain ⟨A2, n2, k2, zs2, e1, hz2, hl2, _, _, b2⟩ := open_is_cells Try.underlying42 Try.underlying3 cellsI64 g1
    refine ⟨A1, A2, n1, n2, k1, k2, zs1, zs2, ?_, hz1, hz2, hl1, hl2, ?_⟩
    · match cs, hsz with
      | [c0, c1], _ =>
        simp at e0 e1
        rw [e0, e1]
    · simp only [Prod.mk.injEq] at hx
      rw [hx.1]
      simp only [List.map_cons, List.map_nil, Rows.uptoBulk, Rows.uptoBulkAll]
      omega
end Go.Proofs.Ytomncfiklkhfjaa.Pl
/- Opening a law's argument that is a row of calls. -/
namespace Go.Proofs.Ytomncfiklkhfjaa.Ref
open Go.ChangeShapes Go.WideShapes Go.ChangeAt Go.RowKit Mem Law Pl
theorem cellsOp : Try.prog.cellsOf 70 = 7 := by kernel_rfl
theorem cellsI8 : Try.prog.cellsOf 5 = 1 := by kernel_rfl
variable {H : Type} {enc : TypeId × Value → H}
set_option maxRecDepth 100000 in
theorem open_op {W : World} {fuel : Nat} {cs : List Value} {x : DataW H × List MemPlace} (h : DataW.trod enc Try.prog W 0 (fun _ => true) true fuel 70 cs = some x) :
    ∃ o : OpM, cs = o.val.toList ∧ OpOk W o := by
  obtain ⟨xs, k, _, hx, hl, hlen, hf⟩ := DataW.trod_struct Try.underlying70 h
  rw [cellsOp] at hl
  match xs, hlen with
  | [y0, y1, y2, y3, y4, y5, y6], _ =>
    have g0 : DataW.trod enc Try.prog W 0 (fun _ => true) true k 3 ((cs.drop 0).take (Try.prog.cellsOf 3)) = some y0 := hf 0 _ rfl
    have g1 : DataW.trod enc Try.prog W 0 (fun _ => true) true k 3 ((cs.drop 1).take (Try.prog.cellsOf 3)) = some y1 := hf 1 _ rfl
    have g2 : DataW.trod enc Try.prog W 0 (fun _ => true) true k 3 ((cs.drop 2).take (Try.prog.cellsOf 3)) = some y2 := hf 2 _ rfl
    have g3 : DataW.trod enc Try.prog W 0 (fun _ => true) true k 3 ((cs.drop 3).take (Try.prog.cellsOf 3)) = some y3 := hf 3 _ rfl
    have g4 : DataW.trod enc Try.prog W 0 (fun _ => true) true k 3 ((cs.drop 4).take (Try.prog.cellsOf 3)) = some y4 := hf 4 _ rfl
    have g5 : DataW.trod enc Try.prog W 0 (fun _ => true) true k 5 ((cs.drop 5).take (Try.prog.cellsOf 5)) = some y5 := hf 5 _ rfl
    have g6 : DataW.trod enc Try.prog W 0 (fun _ => true) true k 42 ((cs.drop 6).take (Try.prog.cellsOf 42)) = some y6 := hf 6 _ rfl
    rw [cellsI64] at g0 g1 g2 g3 g4
    rw [cellsI8] at g5
    rw [cellsIS] at g6
    obtain ⟨a0, e0, _, w0⟩ := DataW.trod_int Try.underlying3 g0
    obtain ⟨a1, e1, _, w1⟩ := DataW.trod_int Try.underlying3 g1
    obtain ⟨a2, e2, _, w2⟩ := DataW.trod_int Try.underlying3 g2
    obtain ⟨a3, e3, _, w3⟩ := DataW.trod_int Try.underlying3 g3
    obtain ⟨a4, e4, _, w4⟩ := DataW.trod_int Try.underlying3 g4
    obtain ⟨a5, e5, _, w5⟩ := DataW.trod_int Try.underlying5 g5
    obtain ⟨AK, nk, ck, zs, e6, hz, hzl, hnc, hcm, _⟩ := open_is_cells Try.underlying42 Try.underlying3 cellsI64 g6
    have hb := V8_ofInt a5 (wf_u8 w5).1 (wf_u8 w5).2
    match cs, hl with
    | [v0, v1, v2, v3, v4, v5, v6], _ =>
      simp at e0 e1 e2 e3 e4 e5 e6
      refine ⟨⟨a0, a1, a2, a3, a4, UInt8.ofNat a5.toNat, AK, nk, ck, zs⟩, ?_, ⟨hz, hzl, ?_, wf_i64 w0, wf_i64 w3, wf_i64 w4⟩⟩
      · rw [e0, e1, e2, e3, e4, e5, e6]
        simp only [OpM.val]
        rw [← hb]
      · show nk ≤ _
        unfold maxLen at hcm
        omega
theorem list_choose {α : Type} (n : Nat) (Q : Nat → α → Prop) (h : ∀ i, i < n → ∃ x, Q i x) : ∃ l : List α, l.length = n ∧ ∀ (i : Nat) (hi : i < l.length), Q i l[i] := by
  induction n with
  | zero => exact ⟨[], rfl, fun i hi => absurd hi (by simp)⟩
  | succ n ih =>
    obtain ⟨l, hl, hq⟩ := ih fun i hi => h i (by omega)
    obtain ⟨x, hx⟩ := h n (by omega)
    refine ⟨l ++ [x], by simp [hl], fun i hi => ?_⟩
    rcases Nat.lt_or_ge i n with hlt | hge
    · rw [List.getElem_append_left (by omega)]
      exact hq i (by omega)
    · obtain rfl : i = n := by simp [hl] at hi; omega
      simpa [List.getElem_append_right, hl] using hx
set_option maxRecDepth 100000 in
/-- A row of calls. -/
theorem open_ops {W : World} {r : Reach} {b0 : Nat} {v : Value} {d : DataW H} {ps : List MemPlace} (hval : Value.okWide Try.prog W r b0 67 v) (h : DataW.Trod enc Try.prog W 0 (fun _ => true) true 67 v d ps) :
    ∃ (A : Option Addr) (n cap : Nat) (os : List OpM), v = .slice A n cap ∧ OpsAt W A os ∧ os.length = n ∧ n ≤ Rows.uptoBulk d := by
  obtain ⟨A, n, cap, rfl⟩ := okWide_slice Try.underlying67 hval
  obtain ⟨fuel, hf⟩ := h
  rcases DataW.trod_slice Try.underlying67 hf with ⟨hcs, hx⟩ | ⟨a, len, cap', elems, rest, m, _, hcs, hx, _, hl, _, hlen, hel, _, _⟩
  · simp [Value.cells] at hcs
    obtain ⟨rfl, rfl, rfl⟩ := hcs
    exact ⟨none, 0, 0, [], rfl, fun i o h => by simp at h, rfl, Nat.zero_le _⟩
  · simp [Value.cells] at hcs
    obtain ⟨rfl, rfl, rfl⟩ := hcs
    simp only [Prod.mk.injEq] at hx
    obtain ⟨l, hll, hq⟩ := list_choose (α := OpM) n (fun i o => OpAt W (a.add (i * 7)) o ∧ OpOk W o) fun i hi => by
      have h1 := hel i hi
      rw [List.getElem?_eq_getElem (by omega), cellsOp, Option.bind_eq_some_iff] at h1
      obtain ⟨cs', hcs', hy⟩ := h1
      obtain ⟨o, rfl, ho⟩ := open_op hy
      have hc := (World.cells?_some hcs').2.2
      have c0 := hc 0 (by decide)
      rw [show (a.add (i * 7)).add 0 = a.add (i * 7) from rfl] at c0
      exact ⟨o, ⟨c0, hc 1 (by decide), hc 2 (by decide), hc 3 (by decide), hc 4 (by decide), hc 5 (by decide), hc 6 (by decide)⟩, ho⟩
    refine ⟨some a, n, cap, l, rfl, fun i o ho => ?_, hll, ?_⟩
    · obtain ⟨hi, he⟩ := List.getElem?_eq_some_iff.1 ho
      have g := hq i hi
      rw [he] at g
      exact ⟨a, rfl, g.1, g.2⟩
    · rw [hx.1]
      have h1 := bulk_length (elems.map (·.1))
      rw [List.length_map] at h1
      simp only [Rows.uptoBulk]
      omega
end Go.Proofs.Ytomncfiklkhfjaa.Ref
