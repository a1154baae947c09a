/- What every law's row shares: a call that returns true and leaves all that was there meets the row's post; arguments opened to bytes and numbers. No program's function is walked here. -/
import Derived.Test.YtlnfeehokpkgiaaDoorFold0
import Derived.ProofKit
import Derived.OpenShut
import Derived.WideKeyArgs
import Derived.Deep.DeepHandedRow
import Derived.Deep.Slices
import Derived.Test.YtlnfeehokpkgiaaDoorFold8
import Derived.Test.YtlnfeehokpkgiaaDoorCards
import Derived.Test.YtlnfeehokpkgiaaDoorTie
import Derived.Lib.LaidTab
import Derived.Test.YtlnfeehokpkgiaaDoorFold28
namespace Go.Proofs.YtlnfeehokpkgiaaDoor.Law
open Go.RowKit Go.ChangeShapes Go.WideShapes Go.ChangeAt Mem
section
variable {H : Type} {enc : TypeId × Value → H} {P : Program}

theorem trodAll_stays (hl : laidOutB P = true) {W W' : World} (hb : Below W.heap.size W W') :
    ∀ (ts : List TypeId) (vs : List Value) (ds : List (DataW H)) (ps : List MemPlace), (∀ t ∈ ts, P.readableRec t = true ∧ t < P.types.size) →
      DataW.TrodAll enc P W 0 (fun _ => true) true ts vs ds ps → (∀ p ∈ ps, p.block < W.heap.size) → ∀ sp : Nat → Bool, (∀ p ∈ ps, sp p.block = true) →
      DataW.TrodAll enc P W' 0 sp true ts vs ds ps
  | [], [], [], ps, _, h, _, _, _ => h
  | t :: ts, v :: vs, d :: ds, ps, hr, h, hlt, sp, hsp => by
    obtain ⟨p, q, hp, hq, rfl⟩ := h
    refine ⟨p, q, ?_, trodAll_stays hl hb ts vs ds q (fun t ht => hr t (List.mem_cons_of_mem _ ht)) hq (fun x hx => hlt x (List.mem_append_right _ hx)) sp (fun x hx => hsp x (List.mem_append_right _ hx)), rfl⟩
    exact WideElems.Trod_stays hl (hr t (List.mem_cons_self ..)).1 (hr t (List.mem_cons_self ..)).2 hp (fun x hx => hb.same (hlt x (List.mem_append_left _ hx))) (fun x hx => hsp x (List.mem_append_left _ hx))
  | [], [], _ :: _, _, _, h, _, _, _ => h.elim
  | [], _ :: _, _, _, _, h, _, _, _ => h.elim
  | _ :: _, [], _, _, _, h, _, _, _ => h.elim
  | _ :: _, _ :: _, [], _, _, h, _, _, _ => h.elim

/-- A LAW's END: it returned true, and all that was there is as it was. -/
theorem post_law {f : Func} {s : ChangeSpec} {apart : Bool} {W W' : World} {args : Array Value} {ds gs : List (DataW H)} {before : List MemPlace} {tb : TypeId}
    (hW : DataW.Whole enc P f.params.toList s.vars apart W args.toList ds gs before) (hv : s.vars = []) (hres : f.resultTypes = #[tb]) (htb : P.underlying tb = some .bool)
    (hfn : s.fn H (ds ++ gs) = { results := [.lit (.bool true)], args := ds }) (hl : laidOutB P = true) (hr : ∀ t ∈ f.params.toList, P.readableRec t = true ∧ t < P.types.size)
    (hb : Below W.heap.size W W') : s.post enc P f apart true false false W args (.bool true) W' := by
  have hlt : ∀ p ∈ before, p.block < W.heap.size := fun p hp => hW.lt p hp
  have hW' := hW
  obtain ⟨p, q, hA, hV, rfl, _, _⟩ := hW
  rw [hv] at hV
  obtain ⟨rfl, rfl⟩ := trodVars_none hV
  refine ⟨ds, [], p ++ [], [], p, [], hW', ?_, ?_, ?_, World.keptBut_mono (fun x hx => ⟨hx, ?_⟩) (hb.frame (· ∈ p ++ [])), fun h => by cases h⟩
  · rw [hfn, hres]
    exact trodAll_mk1 (shut_bool htb true)
  · rw [hfn]
    exact trodAll_stays hl hb _ _ _ _ hr hA (fun x hx => hlt x (List.mem_append_left _ hx)) _ (fun x hx => by simpa using hlt x (List.mem_append_left _ hx))
  · rw [hfn, hv]; rfl
  · exact .inr (.inl (by simpa using hx))

theorem wf_u8 {n : Int} (h : (Lit.int .u8 n).wf = true) : 0 ≤ n ∧ n < 256 := by
  simp [Lit.wf, IntKind.min, IntKind.max, IntKind.signed, IntKind.bits] at h
  omega
/-- A slice of bytes among the arguments. -/
theorem open_bytes {W : World} {r : Reach} {b0 : Nat} {t e : TypeId} {v : Value} {d : DataW H} {ps : List MemPlace} (ht : P.underlying t = some (.slice e)) (he : P.underlying e = some (.int .u8)) (hc : P.cellsOf e = 1)
    (hval : Value.okWide P W r b0 t v) (h : DataW.Trod enc P W 0 (fun _ => true) true t v d ps) :
    ∃ (A : Option Addr) (n cap : Nat) (bs : List UInt8), v = .slice A n cap ∧ BAt W A bs ∧ bs.length = n ∧ n ≤ cap ∧ cap ≤ maxLen ∧
      ((A = none ∧ cap = 0 ∧ d = .nil) ∨ ∃ zs : List Int, d = .slice (lits .u8 (zs.take n)) (lits .u8 (zs.drop n)) ∧ zs.length = cap) := by
  obtain ⟨A, n, cap, rfl⟩ := okWide_slice ht hval
  obtain ⟨fuel, hf⟩ := h
  rcases open_ints ht he hc hf with ⟨hcs, hx⟩ | ⟨a, n', cap', zs, hcs, _, hl, hm, hz, hx, hcell, hwz⟩
  · simp [Value.cells] at hcs
    obtain ⟨rfl, rfl, rfl⟩ := hcs
    simp only [Prod.mk.injEq] at hx
    exact ⟨none, 0, 0, [], rfl, BAt.nil_ _ _, rfl, Nat.le_refl _, by unfold maxLen; omega, .inl ⟨rfl, rfl, hx.1⟩⟩
  · simp [Value.cells] at hcs
    obtain ⟨rfl, rfl, rfl⟩ := hcs
    simp only [Prod.mk.injEq] at hx
    simp only [if_true] at hz
    refine ⟨some a, n, cap, (zs.take n).map fun z => UInt8.ofNat z.toNat, rfl, fun _ => ⟨a, rfl, fun k hk => ?_⟩, by simp; omega, hl, hm, .inr ⟨zs, hx.1, hz⟩⟩
    simp at hk
    rw [hcell k (by omega)]
    have hkz : k < zs.length := by omega
    have hw := wf_u8 (hwz zs[k] (List.getElem_mem hkz))
    have hv := V8_ofInt zs[k] hw.1 hw.2
    simp [List.getD, hkz, List.getElem_take, hk]
    exact hv
theorem wf_u32 {n : Int} (h : (Lit.int .u32 n).wf = true) : 0 ≤ n ∧ n < 4294967296 := by
  simp [Lit.wf, IntKind.min, IntKind.max, IntKind.signed, IntKind.bits] at h
  omega
theorem wf_u64 {n : Int} (h : (Lit.int .u64 n).wf = true) : 0 ≤ n ∧ n < 18446744073709551616 := by
  simp [Lit.wf, IntKind.min, IntKind.max, IntKind.signed, IntKind.bits] at h
  omega
theorem wf_i64 {n : Int} (h : (Lit.int .i64 n).wf = true) : -9223372036854775808 ≤ n ∧ n < 9223372036854775808 := by
  simp [Lit.wf, IntKind.min, IntKind.max, IntKind.signed, IntKind.bits] at h
  omega
/-! ### The form's own reach -/
theorem reach_cons {t : TypeId} {ts : List TypeId} {d : DataW H} {ds : List (DataW H)} (h : (DataW.weightsEach P (t :: ts) (d :: ds)).all (· ≤ reachBytes) = true) :
    (d.weights P t).all (· ≤ reachBytes) = true ∧ (DataW.weightsEach P ts ds).all (· ≤ reachBytes) = true := by
  simp only [DataW.weightsEach, List.all_append, Bool.and_eq_true] at h
  exact h
theorem reach_bytes {t e : TypeId} {A : Option Addr} {n cap : Nat} {d : DataW H} (ht : P.underlying t = some (.slice e)) (hb : P.bytesOf e = 1) (hn : n ≤ cap)
    (hd : (A = none ∧ cap = 0 ∧ d = .nil) ∨ ∃ zs : List Int, d = .slice (lits .u8 (zs.take n)) (lits .u8 (zs.drop n)) ∧ zs.length = cap)
    (h : (d.weights P t).all (· ≤ reachBytes) = true) : cap ≤ 140737488351232 := by
  rcases hd with ⟨_, rfl, _⟩ | ⟨zs, rfl, rfl⟩
  · omega
  · simp only [DataW.weights, ht, hb, List.all_cons, Bool.and_eq_true, decide_eq_true_eq] at h
    have h1 := h.1
    simp [lits, reachBytes] at h1
    omega
/-! ### The bound of the second form -/
theorem bulk_one {d : DataW H} : 1 ≤ Rows.uptoBulk d := by
  cases d with
  | lit l => cases l <;> simp [Rows.uptoBulk]
  | nil => simp [Rows.uptoBulk]
  | ptr d => simp [Rows.uptoBulk]
  | slice elems spare => simp [Rows.uptoBulk]
  | agg parts => simp [Rows.uptoBulk]
  | iface t d => simp [Rows.uptoBulk]
  | map entries => simp [Rows.uptoBulk]
  | held _ => simp [Rows.uptoBulk]
theorem bulk_length (l : List (DataW H)) : l.length ≤ Rows.uptoBulkAll l := by
  induction l with
  | nil => simp [Rows.uptoBulkAll]
  | cons x r ih => have := bulk_one (d := x); simp only [Rows.uptoBulkAll, List.length_cons]; omega
theorem bulk_bytes {A : Option Addr} {n cap : Nat} {d : DataW H} (hn : n ≤ cap)
    (hd : (A = none ∧ cap = 0 ∧ d = .nil) ∨ ∃ zs : List Int, d = .slice (lits .u8 (zs.take n)) (lits .u8 (zs.drop n)) ∧ zs.length = cap) : cap ≤ Rows.uptoBulk d := by
  rcases hd with ⟨_, rfl, _⟩ | ⟨zs, rfl, rfl⟩
  · omega
  · have h1 := bulk_length (lits (H := H) .u8 (zs.take n))
    have h2 := bulk_length (lits (H := H) .u8 (zs.drop n))
    rw [show (lits (H := H) .u8 (zs.take n)).length = (zs.take n).length from by simp [lits]] at h1
    rw [show (lits (H := H) .u8 (zs.drop n)).length = (zs.drop n).length from by simp [lits]] at h2
    rw [List.length_take] at h1
    rw [List.length_drop] at h2
    simp only [Rows.uptoBulk]
    omega
end
end Go.Proofs.YtlnfeehokpkgiaaDoor.Law
/- What the rows of layer 1 (and all that list the table of sums) share: the table's cells out of the row's list; a world for the witness. -/
namespace Go.Proofs.YtlnfeehokpkgiaaDoor.Crc
open Go.ChangeShapes Go.WideShapes Go.ChangeAt Go.RowKit Mem
theorem own : ownKnob Tryd.prog.godebug = none := by kernel_rfl
theorem laidOut : laidOutB Tryd.prog = true := by kernel_rfl
theorem gTab : Tryd.prog.globalNamed "muniment/crc.nibbles" = some 0 := by kernel_rfl
theorem gTabType : (Tryd.prog.globals[0]?).map (·.type) = some 127 := by kernel_rfl
theorem cellsArr : Tryd.prog.cellsOf 127 = 16 := by kernel_rfl
theorem cellsU32 : Tryd.prog.cellsOf 98 = 1 := by kernel_rfl
theorem cellsU8 : Tryd.prog.cellsOf 5 = 1 := by kernel_rfl
theorem bytesU8 : Tryd.prog.bytesOf 5 = 1 := by kernel_rfl
def nums : List Int := [0, 498536548, 997073096, 651767980, 1994146192, 1802195444, 1303535960, 1342533948, 3988292384, 4027552580, 3604390888, 3412177804, 2607071920, 2262029012, 2685067896, 3183342108]
theorem nums_nib : ∀ i : Fin 16, nums.getD i.val 0 = U (nib i.val) := by decide
/-- WHAT THE ROW's LIST GIVES: the table's cells hold the sums of four bits. -/
theorem table {W : World} (h : laidMetH Tryd.prog [("muniment/crc.nibbles", Rows.laid_muniment_crc_nibbles)] W) : Tab W := by
  have ht : Lib.TabIs Tryd.prog W "muniment/crc.nibbles" .u32 nums :=
    Lib.tabIs_of_head (rest := []) gTab gTabType Tryd.underlying127 Tryd.underlying98 cellsU32 cellsArr h
  intro i hi
  rw [ht.cell gTab i hi, nums_nib ⟨i, hi⟩]
theorem tab_lt {W : World} (h : Tab W) : 0 < W.heap.size := cell_lt (h 0 (by decide))
/-- A WORLD FOR THE WITNESS: the settled one, the table holding what its initialiser lays. -/
noncomputable def laidWorld (os : Os) : World :=
  { World.holding Tryd.prog os ⟨#[], #[], []⟩ with heap := (World.holding Tryd.prog os ⟨#[], #[], []⟩).heap.modify 0 fun
      | .cells _ t frozen => .cells #[.int .u32 0, .int .u32 498536548, .int .u32 997073096, .int .u32 651767980, .int .u32 1994146192, .int .u32 1802195444, .int .u32 1303535960, .int .u32 1342533948, .int .u32 3988292384, .int .u32 4027552580, .int .u32 3604390888, .int .u32 3412177804, .int .u32 2607071920, .int .u32 2262029012, .int .u32 2685067896, .int .u32 3183342108] t frozen
      | o => o }
end Go.Proofs.YtlnfeehokpkgiaaDoor.Crc
/- Opening the arguments of layer 8's laws: numbers, rows of numbers, of bytes, transactions, calls. -/
namespace Go.Proofs.YtlnfeehokpkgiaaDoor.Wal
open Go.ChangeShapes Go.WideShapes Go.ChangeAt Go.RowKit Mem Law Pl Crc
theorem cellsIS : Tryd.prog.cellsOf 29 = 1 := by kernel_rfl
theorem cellsBS : Tryd.prog.cellsOf 32 = 1 := by kernel_rfl
theorem cellsI64 : Tryd.prog.cellsOf 3 = 1 := by kernel_rfl
variable {H : Type} {enc : TypeId × Value → H} {P : Program}
theorem bulk_mem {l : List (DataW H)} {d : DataW H} (h : d ∈ l) : Rows.uptoBulk d ≤ Rows.uptoBulkAll l := by
  induction l with
  | nil => cases h
  | cons x r ih =>
    simp only [Rows.uptoBulkAll]
    rcases List.mem_cons.1 h with rfl | h
    · omega
    · have := ih h; omega
theorem list_choose {α : Type} (n : Nat) (Q : Nat → α → Prop) (h : ∀ i, i < n → ∃ x, Q i x) : ∃ l : List α, l.length = n ∧ ∀ (i : Nat) (hi : i < l.length), Q i l[i] := by
  induction n with
  | zero => exact ⟨[], rfl, fun i hi => absurd hi (by simp)⟩
  | succ n ih =>
    obtain ⟨l, hl, hq⟩ := ih fun i hi => h i (by omega)
    obtain ⟨x, hx⟩ := h n (by omega)
    refine ⟨l ++ [x], by simp [hl], fun i hi => ?_⟩
    rcases Nat.lt_or_ge i n with hlt | hge
    · rw [List.getElem_append_left (by omega)]
      exact hq i (by omega)
    · obtain rfl : i = n := by simp [hl] at hi; omega
      simpa [List.getElem_append_right, hl] using hx
/-- A cell that is a slice of bytes. -/
theorem cell_bytes {W : World} {t e : TypeId} {fuel : Nat} {cs : List Value} {x : DataW H × List MemPlace} (ht : P.underlying t = some (.slice e)) (he : P.underlying e = some (.int .u8)) (hc : P.cellsOf e = 1)
    (h : DataW.trod enc P W 0 (fun _ => true) true fuel t cs = some x) :
    ∃ (B : Option Addr) (bs : List UInt8) (c : Nat), cs = [.slice B bs.length c] ∧ BAt W B bs ∧ bs.length ≤ Rows.uptoBulk x.1 := by
  rcases open_ints ht he hc h with ⟨rfl, rfl⟩ | ⟨a, n, cap, zs, rfl, _, hl, hm, hz, rfl, hcell, hwz⟩
  · exact ⟨none, [], 0, rfl, BAt.nil_ _ _, by simp⟩
  · simp only [if_true] at hz
    have hlen : ((zs.take n).map fun z => UInt8.ofNat z.toNat).length = n := by simp; omega
    refine ⟨some a, (zs.take n).map fun z => UInt8.ofNat z.toNat, cap, by rw [hlen], fun _ => ⟨a, rfl, fun k hk => ?_⟩, ?_⟩
    · rw [hlen] at hk
      rw [hcell k (by omega)]
      have hkz : k < zs.length := by omega
      have hw := wf_u8 (hwz zs[k] (List.getElem_mem hkz))
      have hv := V8_ofInt zs[k] hw.1 hw.2
      simp [List.getD, hkz, hk]
      exact hv
    · rw [hlen]
      have h1 := bulk_length (lits (H := H) .u8 (zs.take n))
      rw [show (lits (H := H) .u8 (zs.take n)).length = (zs.take n).length from by simp [lits], List.length_take] at h1
      simp only [Rows.uptoBulk]
      omega
theorem cell_ints {W : World} {t e : TypeId} {cs : List Value} {fuel : Nat} {x : DataW H × List MemPlace} (ht : P.underlying t = some (.slice e)) (he : P.underlying e = some (.int .i64)) (hc : P.cellsOf e = 1)
    (hf : DataW.trod enc P W 0 (fun _ => true) true fuel t cs = some x) :
    ∃ (A : Option Addr) (n cap : Nat) (zs : List Int), cs = [.slice A n cap] ∧ IAt W A zs ∧ zs.length = n ∧ cap ≤ maxLen ∧ n ≤ cap ∧ n ≤ Rows.uptoBulk x.1 ∧ ∀ z ∈ zs, inI z := by
  rcases open_ints ht he hc hf with ⟨hcs, hx⟩ | ⟨a, n', cap', zs, hcs, _, hl, hm, hz, hx, hcell, hwz⟩
  · exact ⟨none, 0, 0, [], hcs, .inl rfl, rfl, by unfold maxLen; omega, Nat.le_refl _, Nat.zero_le _, fun z hz => by simp at hz⟩
  · simp only [if_true] at hz
    refine ⟨some a, n', cap', zs.take n', hcs, .inr ⟨a, rfl, fun k z hk => ?_⟩, by simp; omega, hm, hl, ?_, fun z hz => wf_i64 (hwz z (List.mem_of_mem_take hz))⟩
    · obtain ⟨hk1, hk2⟩ := List.getElem?_eq_some_iff.1 hk
      rw [List.length_take] at hk1
      rw [hcell k (by omega)]
      rw [List.getElem_take] at hk2
      have hkz : k < zs.length := by omega
      rw [List.getD_eq_getElem?_getD, List.getElem?_eq_getElem hkz, hk2]
      rfl
    · subst hx
      have h1 := bulk_length (lits (H := H) .i64 (zs.take n'))
      rw [show (lits (H := H) .i64 (zs.take n')).length = (zs.take n').length from by simp [lits], List.length_take] at h1
      simp only [Rows.uptoBulk]
      omega
set_option maxRecDepth 100000 in
theorem open_is {W : World} {r : Reach} {b0 : Nat} {v : Value} {d : DataW H} {ps : List MemPlace} (hval : Value.okWide Tryd.prog W r b0 29 v) (h : DataW.Trod enc Tryd.prog W 0 (fun _ => true) true 29 v d ps) :
    ∃ (A : Option Addr) (n cap : Nat) (zs : List Int), v = .slice A n cap ∧ IAt W A zs ∧ zs.length = n ∧ cap ≤ maxLen ∧ n ≤ cap ∧ n ≤ Rows.uptoBulk d ∧ ∀ z ∈ zs, inI z := by
  obtain ⟨A, n, cap, rfl⟩ := okWide_slice Tryd.underlying29 hval
  obtain ⟨fuel, hf⟩ := h
  obtain ⟨A', n', cap', zs, hcs, h1⟩ := cell_ints Tryd.underlying29 Tryd.underlying3 cellsI64 hf
  simp [Value.cells] at hcs
  obtain ⟨rfl, rfl, rfl⟩ := hcs
  exact ⟨A, n, cap, zs, rfl, h1⟩
theorem cellsRW : Tryd.prog.cellsOf 42 = 1 := by kernel_rfl
theorem cellsOpW : Tryd.prog.cellsOf 54 = 4 := by kernel_rfl
/-- The bytes of a row are counted. -/
theorem tot_bulk : ∀ (l : List (List UInt8)) (ds : List (DataW H)), (∀ (i : Nat) (b : List UInt8), l[i]? = some b → ∃ d, ds[i]? = some d ∧ b.length ≤ Rows.uptoBulk d) → totM l ≤ Rows.uptoBulkAll ds
  | [], _, _ => Nat.zero_le _
  | b :: l, ds, h => by
    obtain ⟨d, hd, hb⟩ := h 0 b rfl
    match ds, hd with
    | d' :: ds, hd =>
      simp at hd
      subst hd
      have h1 := tot_bulk l ds fun i b' hi => h (i + 1) b' (by simpa using hi)
      unfold totM at *
      simp only [List.map_cons, List.sum_cons, Rows.uptoBulkAll]
      omega
/-- A cell that is a row of rows of bytes. -/
theorem cell_rows {W : World} {fuel : Nat} {cs : List Value} {x : DataW H × List MemPlace} (hf : DataW.trod enc Tryd.prog W 0 (fun _ => true) true fuel 42 cs = some x) :
    ∃ (A : Option Addr) (l : Tx) (c : Nat), cs = [.slice A l.length c] ∧ RowsAt W A l ∧ l.length ≤ Rows.uptoBulk x.1 ∧ totM l ≤ Rows.uptoBulk x.1 := by
  rcases DataW.trod_slice Tryd.underlying42 hf with ⟨hcs, hx⟩ | ⟨a, len, cap', elems, rest, m, _, hcs, hx, _, hl, _, hlen, hel, _, _⟩
  · exact ⟨none, [], 0, hcs, fun i o h => by simp at h, Nat.zero_le _, Nat.zero_le _⟩
  · have hbulk : Rows.uptoBulk x.1 = Rows.uptoBulkAll (elems.map (·.1)) + Rows.uptoBulkAll (rest.map (·.1)) + 1 := by rw [hx]; simp only [Rows.uptoBulk]
    obtain ⟨l, hll, hq⟩ := list_choose (α := List UInt8) len (fun i bs => (∃ (B : Option Addr) (c : Nat), W.cell? (a.add i) = some (.slice B bs.length c) ∧ BAt W B bs) ∧ ∃ d, (elems.map (·.1))[i]? = some d ∧ bs.length ≤ Rows.uptoBulk d) fun i hi => by
      have h1 := hel i hi
      rw [List.getElem?_eq_getElem (by omega), cellsBS, Nat.mul_one, Option.bind_eq_some_iff] at h1
      obtain ⟨cs', hcs', hy⟩ := h1
      obtain ⟨B, bs, c, rfl, hB, hbk⟩ := cell_bytes Tryd.underlying32 Tryd.underlying5 cellsU8 hy
      exact ⟨bs, ⟨B, c, cell_of_cells?_one hcs', hB⟩, elems[i].1, by rw [List.getElem?_map, List.getElem?_eq_getElem (by omega)]; rfl, hbk⟩
    have ht := tot_bulk l (elems.map (·.1)) fun i b hb => by
      obtain ⟨hi, he⟩ := List.getElem?_eq_some_iff.1 hb
      rw [← he]
      exact (hq i hi).2
    refine ⟨some a, l, cap', by rw [hcs, hll], fun i b hb => ?_, ?_, by omega⟩
    · obtain ⟨hi, he⟩ := List.getElem?_eq_some_iff.1 hb
      obtain ⟨⟨B, c, g1, g2⟩, _⟩ := hq i hi
      rw [he] at g1 g2
      exact ⟨a, B, c, rfl, g1, g2⟩
    · have h1 := bulk_length (elems.map (·.1))
      rw [List.length_map] at h1
      omega
set_option maxRecDepth 100000 in
theorem open_rowsW {W : World} {r : Reach} {b0 : Nat} {v : Value} {d : DataW H} {ps : List MemPlace} (hval : Value.okWide Tryd.prog W r b0 42 v) (h : DataW.Trod enc Tryd.prog W 0 (fun _ => true) true 42 v d ps) :
    ∃ (A : Option Addr) (n cap : Nat) (l : Tx), v = .slice A n cap ∧ RowsAt W A l ∧ l.length = n ∧ n ≤ Rows.uptoBulk d ∧ totM l ≤ Rows.uptoBulk d := by
  obtain ⟨A, n, cap, rfl⟩ := okWide_slice Tryd.underlying42 hval
  obtain ⟨fuel, hf⟩ := h
  obtain ⟨A', l, c', hcs, h1, h2, h3⟩ := cell_rows hf
  simp [Value.cells] at hcs
  obtain ⟨rfl, rfl, rfl⟩ := hcs
  exact ⟨A, l.length, cap, l, rfl, h1, rfl, h2, h3⟩
set_option maxRecDepth 100000 in
/-- A row of transactions. -/
theorem open_txs {W : World} {r : Reach} {b0 : Nat} {v : Value} {d : DataW H} {ps : List MemPlace} (hval : Value.okWide Tryd.prog W r b0 38 v) (h : DataW.Trod enc Tryd.prog W 0 (fun _ => true) true 38 v d ps) :
    ∃ (A : Option Addr) (n cap : Nat) (l : List Tx), v = .slice A n cap ∧ TxRows W A l ∧ l.length = n ∧ n ≤ Rows.uptoBulk d ∧ ∀ tx ∈ l, tx.length ≤ Rows.uptoBulk d ∧ totM tx ≤ Rows.uptoBulk d := by
  obtain ⟨A, n, cap, rfl⟩ := okWide_slice Tryd.underlying38 hval
  obtain ⟨fuel, hf⟩ := h
  rcases DataW.trod_slice Tryd.underlying38 hf with ⟨hcs, hx⟩ | ⟨a, len, cap', elems, rest, m, _, hcs, hx, _, hl, _, hlen, hel, _, _⟩
  · simp [Value.cells] at hcs
    obtain ⟨rfl, rfl, rfl⟩ := hcs
    exact ⟨none, 0, 0, [], rfl, fun i o h => by simp at h, rfl, Nat.zero_le _, fun b hb => by simp at hb⟩
  · simp [Value.cells] at hcs
    obtain ⟨rfl, rfl, rfl⟩ := hcs
    simp only [Prod.mk.injEq] at hx
    have hbulk : Rows.uptoBulk d = Rows.uptoBulkAll (elems.map (·.1)) + Rows.uptoBulkAll (rest.map (·.1)) + 1 := by rw [hx.1]; simp only [Rows.uptoBulk]
    obtain ⟨l, hll, hq⟩ := list_choose (α := Tx) n (fun i tx => (∃ (B : Option Addr) (c : Nat), W.cell? (a.add i) = some (.slice B tx.length c) ∧ RowsAt W B tx) ∧ tx.length ≤ Rows.uptoBulk d ∧ totM tx ≤ Rows.uptoBulk d) fun i hi => by
      have h1 := hel i hi
      rw [List.getElem?_eq_getElem (by omega), cellsRW, Nat.mul_one, Option.bind_eq_some_iff] at h1
      obtain ⟨cs', hcs', hy⟩ := h1
      obtain ⟨B, tx, c, rfl, hB, hb1, hb2⟩ := cell_rows hy
      have hm := bulk_mem (l := elems.map (·.1)) (List.mem_map.2 ⟨elems[i], List.getElem_mem (by omega), rfl⟩)
      exact ⟨tx, ⟨B, c, cell_of_cells?_one hcs', hB⟩, by omega, by omega⟩
    refine ⟨some a, n, cap, l, rfl, fun i b hb => ?_, hll, ?_, fun b hb => ?_⟩
    · obtain ⟨hi, he⟩ := List.getElem?_eq_some_iff.1 hb
      obtain ⟨⟨B, c, g1, g2⟩, _⟩ := hq i hi
      rw [he] at g1 g2
      exact ⟨a, B, c, rfl, g1, g2⟩
    · have h1 := bulk_length (elems.map (·.1))
      rw [List.length_map] at h1
      omega
    · obtain ⟨i, hi⟩ := List.getElem?_of_mem hb
      obtain ⟨hi, he⟩ := List.getElem?_eq_some_iff.1 hi
      rw [← he]
      exact (hq i hi).2
set_option maxRecDepth 100000 in
theorem cell_opW {W : World} {fuel : Nat} {cs : List Value} {x : DataW H × List MemPlace} (h : DataW.trod enc Tryd.prog W 0 (fun _ => true) true fuel 54 cs = some x) (hbd : Rows.uptoBulk x.1 ≤ 100000000) :
    ∃ o : OpW, cs = o.val.toList ∧ OpWOk W o := by
  obtain ⟨xs, k, _, hx, hl, hlen, hf⟩ := DataW.trod_struct Tryd.underlying54 h
  rw [cellsOpW] at hl
  match xs, hlen with
  | [y0, y1, y2, y3], _ =>
    have g0 : DataW.trod enc Tryd.prog W 0 (fun _ => true) true k 3 ((cs.drop 0).take (Tryd.prog.cellsOf 3)) = some y0 := hf 0 _ rfl
    have g1 : DataW.trod enc Tryd.prog W 0 (fun _ => true) true k 3 ((cs.drop 1).take (Tryd.prog.cellsOf 3)) = some y1 := hf 1 _ rfl
    have g2 : DataW.trod enc Tryd.prog W 0 (fun _ => true) true k 42 ((cs.drop 2).take (Tryd.prog.cellsOf 42)) = some y2 := hf 2 _ rfl
    have g3 : DataW.trod enc Tryd.prog W 0 (fun _ => true) true k 29 ((cs.drop 3).take (Tryd.prog.cellsOf 29)) = some y3 := hf 3 _ rfl
    rw [cellsI64] at g0 g1
    rw [cellsRW] at g2
    rw [cellsIS] at g3
    obtain ⟨a0, e0, _, w0⟩ := DataW.trod_int Tryd.underlying3 g0
    obtain ⟨a1, e1, _, w1⟩ := DataW.trod_int Tryd.underlying3 g1
    obtain ⟨B, tx, c, e2, hB, hb1, hb2⟩ := cell_rows g2
    obtain ⟨AK, nk, ck, zs, e3, hz, hzl, hcm, hnc, _, _⟩ := cell_ints Tryd.underlying29 Tryd.underlying3 cellsI64 g3
    match cs, hl with
    | [v0, v1, v2, v3], _ =>
      simp at e0 e1 e2 e3
      have i0 : inI a0 := wf_i64 w0
      have i1 : inI a1 := wf_i64 w1
      have hm : Rows.uptoBulk y2.1 ≤ 100000000 := by
        subst hx
        have := bulk_mem (l := [y0, y1, y2, y3].map (·.1)) (d := y2.1) (by simp)
        simp only [Rows.uptoBulk] at hbd
        omega
      refine ⟨⟨a0, a1, B, tx.length, c, AK, nk, ck, tx, zs⟩, by rw [e0, e1, e2, e3]; rfl, i0, i1, hB, rfl, ?_, ?_, hz, hzl, ?_⟩
      · show tx.length ≤ _
        omega
      · show totM tx ≤ _
        omega
      · show nk ≤ _
        unfold maxLen at hcm
        omega
set_option maxRecDepth 100000 in
/-- A row of calls. -/
theorem open_opsW {W : World} {r : Reach} {b0 : Nat} {v : Value} {d : DataW H} {ps : List MemPlace} (hval : Value.okWide Tryd.prog W r b0 49 v) (h : DataW.Trod enc Tryd.prog W 0 (fun _ => true) true 49 v d ps) (hbd : Rows.uptoBulk d ≤ 100000000) :
    ∃ (A : Option Addr) (n cap : Nat) (os : List OpW), v = .slice A n cap ∧ OpsWAt W A os ∧ os.length = n ∧ n ≤ Rows.uptoBulk d ∧ n ≤ cap := by
  obtain ⟨A, n, cap, rfl⟩ := okWide_slice Tryd.underlying49 hval
  obtain ⟨fuel, hf⟩ := h
  rcases DataW.trod_slice Tryd.underlying49 hf with ⟨hcs, hx⟩ | ⟨a, len, cap', elems, rest, m, _, hcs, hx, _, hl, _, hlen, hel, _, _⟩
  · simp [Value.cells] at hcs
    obtain ⟨rfl, rfl, rfl⟩ := hcs
    exact ⟨none, 0, 0, [], rfl, fun i o h => by simp at h, rfl, Nat.zero_le _, Nat.le_refl _⟩
  · simp [Value.cells] at hcs
    obtain ⟨rfl, rfl, rfl⟩ := hcs
    simp only [Prod.mk.injEq] at hx
    have hbulk : Rows.uptoBulk d = Rows.uptoBulkAll (elems.map (·.1)) + Rows.uptoBulkAll (rest.map (·.1)) + 1 := by rw [hx.1]; simp only [Rows.uptoBulk]
    obtain ⟨l, hll, hq⟩ := list_choose (α := OpW) n (fun i o => OpWAt W (a.add (i * 4)) o ∧ OpWOk W o) fun i hi => by
      have h1 := hel i hi
      rw [List.getElem?_eq_getElem (by omega), cellsOpW, Option.bind_eq_some_iff] at h1
      obtain ⟨cs', hcs', hy⟩ := h1
      have hm := bulk_mem (l := elems.map (·.1)) (List.mem_map.2 ⟨elems[i], List.getElem_mem (by omega), rfl⟩)
      obtain ⟨o, rfl, hoL⟩ := cell_opW hy (by omega)
      have hc := (World.cells?_some hcs').2.2
      have c0 := hc 0 (by decide)
      rw [show (a.add (i * 4)).add 0 = a.add (i * 4) from rfl] at c0
      exact ⟨o, ⟨c0, hc 1 (by decide), hc 2 (by decide), hc 3 (by decide)⟩, hoL⟩
    refine ⟨some a, n, cap, l, rfl, fun i o ho => ?_, hll, ?_, hl⟩
    · obtain ⟨hi, he⟩ := List.getElem?_eq_some_iff.1 ho
      have g := hq i hi
      rw [he] at g
      exact ⟨a, rfl, g.1, g.2⟩
    · have h1 := bulk_length (elems.map (·.1))
      rw [List.length_map] at h1
      omega
theorem iat_lt {W : World} {A : Option Addr} {zs : List Int} (h : IAt W A zs) : zs ≠ [] → ∀ ad, A = some ad → ad.block < W.heap.size := fun hne ad hA => by
  rcases h with h | ⟨ad', hA', hc⟩
  · exact absurd h hne
  · rw [hA] at hA'
    injection hA' with hA'
    subst hA'
    cases zs with
    | nil => exact absurd rfl hne
    | cons z zs =>
      have := cell_lt (hc 0 z rfl)
      rwa [add_block] at this
end Go.Proofs.YtlnfeehokpkgiaaDoor.Wal
