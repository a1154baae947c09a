/- A region whose order is drawn, walked in ONE order: operations that only look, and those that only make new memory, may change places. Over any program. No program's function is walked here. -/
import Derived.Test.YtloffgoenaomkaaDoorFold0
import Derived.Deep.RegionHeld3
namespace Go.Proofs.YtloffgoenaomkaaDoor.Ord
open Go Go.RowKit
section
variable {P : Program} {α β : Type}
/-- A computation that never ends well. -/
def Dead (P : Program) (m : Sem α) : Prop := ∀ w v w1, m.run P w ≠ .ok v w1
/-- A computation that touches no memory. -/
def Blind (P : Program) (m : Sem α) : Prop := ∀ w v w1, m.run P w = .ok v w1 → w1 = w ∧ ∀ w', m.run P w' = .ok v w'
/-- A computation that only looks: it gives the same wherever memory has grown. -/
def Looks (P : Program) (m : Sem α) : Prop := ∀ w v w1, m.run P w = .ok v w1 → w1 = w ∧ ∀ w', Below w.heap.size w w' → m.run P w' = .ok v w'
/-- A computation that only makes new memory. -/
def Grows (P : Program) (m : Sem α) : Prop := ∀ w v w1, m.run P w = .ok v w1 → Below w.heap.size w w1
theorem Blind.looks {m : Sem α} (h : Blind P m) : Looks P m := fun w v w1 hr => ⟨(h w v w1 hr).1, fun w' _ => (h w v w1 hr).2 w'⟩
theorem Looks.grows {m : Sem α} (h : Looks P m) : Grows P m := fun w v w1 hr => by rw [(h w v w1 hr).1]; exact Below.refl _ _
theorem Dead.blind {m : Sem α} (h : Dead P m) : Blind P m := fun w v w1 hr => absurd hr (h w v w1)
theorem andThen_ok {r : Result α} {f : α → World → Result β} {v : β} {w1 : World} (h : r.andThen f = .ok v w1) : ∃ u w2, r = .ok u w2 ∧ f u w2 = .ok v w1 := by
  cases r with
  | ok u w2 => exact ⟨u, w2, rfl, h⟩
  | halt x w2 => cases h
theorem Blind.bind_ {m : Sem α} {f : α → Sem β} (h : Blind P m) (hf : ∀ a, Blind P (f a)) : Blind P (m >>= f) := fun w v w1 hr => by
  rw [Sem.run_bind] at hr
  obtain ⟨u, w2, h1, h2⟩ := andThen_ok hr
  obtain ⟨rfl, h3⟩ := h _ _ _ h1
  obtain ⟨rfl, h4⟩ := hf u _ _ _ h2
  exact ⟨rfl, fun w' => by rw [Sem.run_bind, h3 w', Result.andThen_ok, h4 w']⟩
theorem Looks.bind_ {m : Sem α} {f : α → Sem β} (h : Looks P m) (hf : ∀ a, Looks P (f a)) : Looks P (m >>= f) := fun w v w1 hr => by
  rw [Sem.run_bind] at hr
  obtain ⟨u, w2, h1, h2⟩ := andThen_ok hr
  obtain ⟨rfl, h3⟩ := h _ _ _ h1
  obtain ⟨rfl, h4⟩ := hf u _ _ _ h2
  exact ⟨rfl, fun w' hb => by rw [Sem.run_bind, h3 w' hb, Result.andThen_ok, h4 w' hb]⟩
theorem Grows.bind_ {m : Sem α} {f : α → Sem β} (h : Grows P m) (hf : ∀ a, Grows P (f a)) : Grows P (m >>= f) := fun w v w1 hr => by
  rw [Sem.run_bind] at hr
  obtain ⟨u, w2, h1, h2⟩ := andThen_ok hr
  have h3 := h _ _ _ h1
  have h4 := hf u _ _ _ h2
  exact h3.trans (h4.mono h3.size)
theorem Dead.bind_ {m : Sem α} {f : α → Sem β} (hf : ∀ a, Dead P (f a)) : Dead P (m >>= f) := fun w v w1 hr => by
  rw [Sem.run_bind] at hr
  obtain ⟨u, w2, h1, h2⟩ := andThen_ok hr
  exact hf u _ _ _ h2
theorem Blind.pure_ (a : α) : Blind P (Pure.pure a : Sem α) := fun w v w1 hr => by
  rw [Sem.run_pure] at hr
  cases hr
  exact ⟨rfl, fun w' => Sem.run_pure _ _ _⟩
theorem dead_halt (h : Halt) : Dead P (Sem.halt h : Sem α) := fun w v w1 hr => by simp [Sem.run] at hr
theorem dead_stuck (s : String) : Dead P (stuck s : Sem α) := dead_halt _
theorem dead_unsupported (u : Unsupported) : Dead P (unsupported u : Sem α) := dead_halt _
theorem dead_goPanic (v : Value) : Dead P (goPanic v : Sem α) := dead_halt _
theorem blind_program : Blind P program := fun w v w1 hr => by
  simp [program, Sem.run] at hr
  obtain ⟨rfl, rfl⟩ := hr
  exact ⟨rfl, fun w' => by simp [program, Sem.run]⟩
theorem dead_runtimePanic (e : RuntimeError) : Dead P (runtimePanic e : Sem α) := by
  unfold runtimePanic
  refine Dead.bind_ fun p => ?_
  cases e <;> dsimp only
  all_goals first
    | exact dead_goPanic _
    | (refine Dead.bind_ fun _ => ?_; first | exact dead_goPanic _ | (refine Dead.bind_ fun _ => ?_; exact dead_goPanic _))
theorem dead_boundsPanic (k : IntKind) (x y : Int) (c : BoundsCode) : Dead P (boundsPanic k x y c : Sem α) := by
  unfold boundsPanic
  dsimp only
  split <;> exact Dead.bind_ fun _ => dead_runtimePanic _
theorem blind_underlying (t : TypeId) : Blind P (underlying t) := by
  unfold underlying
  refine blind_program.bind_ fun p => ?_
  split
  · exact Blind.pure_ _
  · exact (dead_stuck _).blind
theorem blind_typeInfo (t : TypeId) : Blind P (typeInfo t) := by
  unfold typeInfo
  refine blind_program.bind_ fun p => ?_
  split
  · exact Blind.pure_ _
  · exact (dead_stuck _).blind
theorem blind_sizeOf (t : TypeId) : Blind P (sizeOf t) := (blind_typeInfo t).bind_ fun _ => Blind.pure_ _
theorem blind_zeroValue (t : TypeId) : Blind P (zeroValue t) := by
  unfold zeroValue
  refine (blind_typeInfo t).bind_ fun p => ?_
  split
  · exact Blind.pure_ _
  · exact (dead_unsupported _).blind
theorem blind_isAgg (t : TypeId) : Blind P (isAgg t) := by
  unfold isAgg
  refine (blind_underlying t).bind_ fun p => ?_
  split <;> exact Blind.pure_ _
theorem blind_asIntOf (v : Value) : Blind P (asIntOf v) := by
  unfold asIntOf
  split
  · exact Blind.pure_ _
  · exact (dead_unsupported _).blind
  · exact (dead_stuck _).blind
theorem blind_asInt (v : Value) : Blind P (asInt v) := (blind_asIntOf v).bind_ fun _ => Blind.pure_ _
theorem blind_asBool (v : Value) : Blind P (asBool v) := by
  unfold asBool
  split
  · exact Blind.pure_ _
  · exact (dead_stuck _).blind
theorem blind_sureAddr (v : Value) : Blind P (Instr.sureAddr v) := by
  unfold Instr.sureAddr
  split
  · exact Blind.pure_ _
  · exact (dead_stuck _).blind
theorem blind_asAddr (v : Value) : Blind P (asAddr v) := by
  unfold asAddr
  split
  · exact Blind.pure_ _
  · exact (dead_runtimePanic _).blind
  · exact (dead_stuck _).blind
theorem blind_sliceBound (x : Value) (y : Nat) (c : BoundsCode) : Blind P (Instr.sliceBound x y c) := by
  unfold Instr.sliceBound
  repeat'
    (first
      | exact Blind.pure_ _
      | exact (dead_stuck _).blind
      | exact (dead_unsupported _).blind
      | exact (dead_runtimePanic _).blind
      | exact (dead_boundsPanic _ _ _ _).blind
      | exact blind_underlying _
      | exact blind_typeInfo _
      | exact blind_sizeOf _
      | exact blind_zeroValue _
      | exact blind_isAgg _
      | exact blind_asIntOf _
      | exact blind_asInt _
      | exact blind_asBool _
      | exact blind_sureAddr _
      | exact blind_asAddr _
      | exact blind_program
      | refine Blind.bind_ ?_ fun _ => ?_
      | split
      | dsimp only)
theorem blind_sliceBounds (s : Bool) (l c : Nat) (lo hi mx : Option Value) : Blind P (Instr.sliceBounds s l c lo hi mx) := by
  unfold Instr.sliceBounds
  repeat'
    (first
      | exact Blind.pure_ _
      | exact (dead_stuck _).blind
      | exact (dead_unsupported _).blind
      | exact (dead_runtimePanic _).blind
      | exact (dead_boundsPanic _ _ _ _).blind
      | exact blind_underlying _
      | exact blind_typeInfo _
      | exact blind_sizeOf _
      | exact blind_zeroValue _
      | exact blind_isAgg _
      | exact blind_asIntOf _
      | exact blind_asInt _
      | exact blind_asBool _
      | exact blind_sureAddr _
      | exact blind_asAddr _
      | exact blind_program
      | exact blind_sliceBound _ _ _
      | refine Blind.bind_ ?_ fun _ => ?_
      | split
      | dsimp only)
theorem blind_slice (t : TypeId) (x : Value) (lo hi mx : Option Value) : Blind P (Instr.slice t x lo hi mx) := by
  unfold Instr.slice
  repeat'
    (first
      | exact Blind.pure_ _
      | exact (dead_stuck _).blind
      | exact (dead_unsupported _).blind
      | exact (dead_runtimePanic _).blind
      | exact (dead_boundsPanic _ _ _ _).blind
      | exact blind_underlying _
      | exact blind_typeInfo _
      | exact blind_sizeOf _
      | exact blind_zeroValue _
      | exact blind_isAgg _
      | exact blind_asIntOf _
      | exact blind_asInt _
      | exact blind_asBool _
      | exact blind_sureAddr _
      | exact blind_asAddr _
      | exact blind_program
      | exact blind_sliceBound _ _ _
      | exact blind_sliceBounds _ _ _ _ _ _
      | refine Blind.bind_ ?_ fun _ => ?_
      | split
      | dsimp only)
theorem blind_sliceAt (t : TypeId) (x : Value) (lo hi mx : Option Value) : Blind P (Instr.sliceAt t x lo hi mx) := by
  unfold Instr.sliceAt
  repeat'
    (first
      | exact Blind.pure_ _
      | exact (dead_stuck _).blind
      | exact (dead_unsupported _).blind
      | exact (dead_runtimePanic _).blind
      | exact (dead_boundsPanic _ _ _ _).blind
      | exact blind_underlying _
      | exact blind_typeInfo _
      | exact blind_sizeOf _
      | exact blind_zeroValue _
      | exact blind_isAgg _
      | exact blind_asIntOf _
      | exact blind_asInt _
      | exact blind_asBool _
      | exact blind_sureAddr _
      | exact blind_asAddr _
      | exact blind_program
      | exact blind_sliceBound _ _ _
      | exact blind_sliceBounds _ _ _ _ _ _
      | exact blind_slice _ _ _ _ _
      | refine Blind.bind_ ?_ fun _ => ?_
      | split
      | dsimp only)
theorem blind_indexAt (t : TypeId) (x i : Value) : Blind P (Instr.indexAt t x i) := by
  unfold Instr.indexAt
  repeat'
    (first
      | exact Blind.pure_ _
      | exact (dead_stuck _).blind
      | exact (dead_unsupported _).blind
      | exact (dead_runtimePanic _).blind
      | exact (dead_boundsPanic _ _ _ _).blind
      | exact blind_underlying _
      | exact blind_typeInfo _
      | exact blind_sizeOf _
      | exact blind_zeroValue _
      | exact blind_isAgg _
      | exact blind_asIntOf _
      | exact blind_asInt _
      | exact blind_asBool _
      | exact blind_sureAddr _
      | exact blind_asAddr _
      | exact blind_program
      | exact blind_sliceBound _ _ _
      | exact blind_sliceBounds _ _ _ _ _ _
      | exact blind_slice _ _ _ _ _
      | exact blind_sliceAt _ _ _ _ _
      | refine Blind.bind_ ?_ fun _ => ?_
      | split
      | dsimp only)
theorem blind_extract (t : Value) (i : Nat) : Blind P (Instr.extract t i) := by
  unfold Instr.extract
  repeat'
    (first
      | exact Blind.pure_ _
      | exact (dead_stuck _).blind
      | exact (dead_unsupported _).blind
      | exact (dead_runtimePanic _).blind
      | exact (dead_boundsPanic _ _ _ _).blind
      | exact blind_underlying _
      | exact blind_typeInfo _
      | exact blind_sizeOf _
      | exact blind_zeroValue _
      | exact blind_isAgg _
      | exact blind_asIntOf _
      | exact blind_asInt _
      | exact blind_asBool _
      | exact blind_sureAddr _
      | exact blind_asAddr _
      | exact blind_program
      | exact blind_sliceBound _ _ _
      | exact blind_sliceBounds _ _ _ _ _ _
      | exact blind_slice _ _ _ _ _
      | exact blind_sliceAt _ _ _ _ _
      | exact blind_indexAt _ _ _
      | refine Blind.bind_ ?_ fun _ => ?_
      | split
      | dsimp only)
theorem Blind.mapM_ {f : α → Sem β} (h : ∀ a, Blind P (f a)) : ∀ l : List α, Blind P (l.mapM f)
  | [] => by rw [List.mapM_nil]; exact Blind.pure_ _
  | x :: l => by rw [List.mapM_cons]; exact (h x).bind_ fun _ => (Blind.mapM_ h l).bind_ fun _ => Blind.pure_ _
theorem Blind.map_ {m : Sem α} (h : Blind P m) (f : α → β) : Blind P (f <$> m) := fun w v w1 hr => by
  rw [Sem.run_map] at hr
  obtain ⟨u, w2, h1, h2⟩ := andThen_ok hr
  cases h2
  exact ⟨(h _ _ _ h1).1, fun w' => by rw [Sem.run_map, (h _ _ _ h1).2 w']; rfl⟩
theorem Blind.amapM_ {f : α → Sem β} (h : ∀ a, Blind P (f a)) (l : Array α) : Blind P (l.mapM f) := by
  rw [Array.mapM_eq_mapM_toList]
  exact (Blind.mapM_ h _).map_ _
theorem blind_build (t : TypeId) (l : Array (Nat × Value)) : Blind P (Instr.build t l) := by
  unfold Instr.build
  repeat'
    (first
      | exact Blind.pure_ _
      | exact (dead_stuck _).blind
      | exact (dead_unsupported _).blind
      | exact (dead_runtimePanic _).blind
      | exact (dead_boundsPanic _ _ _ _).blind
      | exact blind_underlying _
      | exact blind_typeInfo _
      | exact blind_sizeOf _
      | exact blind_zeroValue _
      | exact blind_isAgg _
      | exact blind_asIntOf _
      | exact blind_asInt _
      | exact blind_asBool _
      | exact blind_sureAddr _
      | exact blind_asAddr _
      | exact blind_program
      | exact blind_sliceBound _ _ _
      | exact blind_sliceBounds _ _ _ _ _ _
      | exact blind_slice _ _ _ _ _
      | exact blind_sliceAt _ _ _ _ _
      | exact blind_indexAt _ _ _
      | exact blind_extract _ _
      | exact Blind.amapM_ (fun _ => (blind_sizeOf _).bind_ fun _ => Blind.pure_ _) _
      | refine Blind.bind_ ?_ fun _ => ?_
      | split
      | dsimp only)
theorem blind_part (t : TypeId) (l : Array Value) (o : Nat) : Blind P (part t l o) := by
  unfold part
  repeat'
    (first
      | exact Blind.pure_ _
      | exact (dead_stuck _).blind
      | exact (dead_unsupported _).blind
      | exact (dead_runtimePanic _).blind
      | exact (dead_boundsPanic _ _ _ _).blind
      | exact blind_underlying _
      | exact blind_typeInfo _
      | exact blind_sizeOf _
      | exact blind_zeroValue _
      | exact blind_isAgg _
      | exact blind_asIntOf _
      | exact blind_asInt _
      | exact blind_asBool _
      | exact blind_sureAddr _
      | exact blind_asAddr _
      | exact blind_program
      | exact blind_sliceBound _ _ _
      | exact blind_sliceBounds _ _ _ _ _ _
      | exact blind_slice _ _ _ _ _
      | exact blind_sliceAt _ _ _ _ _
      | exact blind_indexAt _ _ _
      | exact blind_extract _ _
      | exact Blind.amapM_ (fun _ => (blind_sizeOf _).bind_ fun _ => Blind.pure_ _) _
      | exact blind_build _ _
      | refine Blind.bind_ ?_ fun _ => ?_
      | split
      | dsimp only)
theorem blind_followBlind : ∀ (l : List FieldStep) (t : TypeId) (x : Option Value), Blind P (followBlind l t x)
  | [], t, x => by unfold followBlind; exact Blind.pure_ _
  | s :: l, t, x => by
    unfold followBlind
    repeat'
      (first
        | exact Blind.pure_ _
        | exact (dead_stuck _).blind
        | exact (dead_unsupported _).blind
        | exact (dead_runtimePanic _).blind
        | exact (dead_boundsPanic _ _ _ _).blind
        | exact blind_underlying _
        | exact blind_typeInfo _
        | exact blind_sizeOf _
        | exact blind_zeroValue _
        | exact blind_isAgg _
        | exact blind_asIntOf _
        | exact blind_asInt _
        | exact blind_asBool _
        | exact blind_sureAddr _
        | exact blind_asAddr _
        | exact blind_program
        | exact blind_sliceBound _ _ _
        | exact blind_sliceBounds _ _ _ _ _ _
        | exact blind_slice _ _ _ _ _
        | exact blind_sliceAt _ _ _ _ _
        | exact blind_indexAt _ _ _
        | exact blind_extract _ _
        | exact Blind.amapM_ (fun _ => (blind_sizeOf _).bind_ fun _ => Blind.pure_ _) _
        | exact blind_build _ _
        | exact blind_part _ _ _
        | exact blind_followBlind l _ _
        | refine Blind.bind_ ?_ fun _ => ?_
        | split
        | dsimp only)
theorem blind_nilAhead : ∀ (k : Nat) (t : TypeId) (x : Value) (s : String), Blind P (nilAhead k t x s)
  | 0, t, x, s => by unfold nilAhead; exact Blind.pure_ _
  | k + 1, t, x, s => by
    unfold nilAhead
    repeat'
      (first
        | exact Blind.pure_ _
        | exact (dead_stuck _).blind
        | exact (dead_unsupported _).blind
        | exact (dead_runtimePanic _).blind
        | exact (dead_boundsPanic _ _ _ _).blind
        | exact blind_underlying _
        | exact blind_typeInfo _
        | exact blind_sizeOf _
        | exact blind_zeroValue _
        | exact blind_isAgg _
        | exact blind_asIntOf _
        | exact blind_asInt _
        | exact blind_asBool _
        | exact blind_sureAddr _
        | exact blind_asAddr _
        | exact blind_program
        | exact blind_sliceBound _ _ _
        | exact blind_sliceBounds _ _ _ _ _ _
        | exact blind_slice _ _ _ _ _
        | exact blind_sliceAt _ _ _ _ _
        | exact blind_indexAt _ _ _
        | exact blind_extract _ _
        | exact Blind.amapM_ (fun _ => (blind_sizeOf _).bind_ fun _ => Blind.pure_ _) _
        | exact blind_build _ _
        | exact blind_part _ _ _
        | exact blind_followBlind _ _ _
        | exact blind_nilAhead k _ _ _
        | refine Blind.bind_ ?_ fun _ => ?_
        | split
        | dsimp only)

theorem Below.cellSome {w w' : World} {a : Addr} {v : Value} (hb : Below w.heap.size w w') (h : w.cell? a = some v) : w'.cell? a = some v := (hb.cell (Mem.cell_lt h)).trans h
theorem Below.heapSome {w w' : World} {r : Nat} {o : Obj} (hb : Below w.heap.size w w') (h : w.heap[r]? = some o) : w'.heap[r]? = some o := by
  rw [hb.block r (Array.getElem?_eq_some_iff.1 h).1, h]
theorem seen_stays {w w' : World} {b : Addr} {u : TypeId} {k : Addr} {at_ : Bool} (hb : Below w.heap.size w w') {r} (h : w.seen P b u k at_ = .ok r) : w'.seen P b u k at_ = .ok r := by
  cases hh : w.heap[b.block]? with
  | some o =>
    unfold World.seen at h ⊢
    rw [hh] at h
    rw [Below.heapSome hb hh]
    exact h
  | none =>
    exfalso
    unfold World.seen at h
    rw [hh] at h
    revert h
    dsimp only
    repeat' (first | (split) | (intro h; cases h; done))
    all_goals (intro h; simp [bind, Except.bind, throw, throwThe, MonadExceptOf.throw] at h)
theorem looks_load (a : Addr) : Looks P (load a) := fun w v w1 hr => by
  simp only [load, Sem.run] at hr ⊢
  cases hc : w.cell? a with
  | some u =>
    rw [hc] at hr
    simp only at hr
    cases hr
    exact ⟨rfl, fun w' hb => by rw [Below.cellSome hb hc]⟩
  | none =>
    rw [hc] at hr
    simp only [World.farLoad] at hr
    cases hh : w.heap[a.block]? with
    | none => rw [hh] at hr; simp at hr
    | some o =>
      rw [hh] at hr
      cases o with
      | view b u =>
        simp only at hr
        cases hv : w.viewLoad P b u a false with
        | error e => rw [show (Mode.plain == Mode.atomic) = false from rfl, hv] at hr; simp at hr
        | ok r =>
          rw [show (Mode.plain == Mode.atomic) = false from rfl, hv] at hr
          simp only at hr
          cases hr
          refine ⟨rfl, fun w' hb => ?_⟩
          have hh' := Below.heapSome hb hh
          have hn : w'.cell? a = none := by unfold World.cell?; rw [hh']
          have hv' : w'.viewLoad P b u a false = .ok r := by
            unfold World.viewLoad at hv ⊢
            cases hs : w.seen P b u a false with
            | error e => rw [hs] at hv; simp [bind, Except.bind] at hv
            | ok q => rw [hs] at hv; rw [seen_stays hb hs]; exact hv
          rw [hn]
          simp only [World.farLoad, hh', show (Mode.plain == Mode.atomic) = false from rfl, hv']
      | _ => simp at hr
theorem looks_loadCellsFrom (a : Addr) : ∀ (n i : Nat) (acc : Array Value), Looks P (loadCellsFrom a i n acc)
  | 0, i, acc => (Blind.pure_ _).looks
  | n + 1, i, acc => by
    unfold loadCellsFrom
    exact (looks_load _).bind_ fun _ => looks_loadCellsFrom a n _ _
theorem looks_loadAt (t : TypeId) (x : Value) : Looks P (Instr.loadAt t x) := by
  unfold Instr.loadAt loadVar
  refine (blind_sureAddr _).looks.bind_ fun a => (blind_isAgg _).looks.bind_ fun b => ?_
  split
  · exact (blind_sizeOf _).looks.bind_ fun _ => (looks_loadCellsFrom _ _ _ _).bind_ fun _ => (Blind.pure_ _).looks
  · exact looks_load _
theorem looks_getObj (r : Nat) : Looks P (getObj r) := fun w v w1 hr => by
  simp only [getObj, Sem.run] at hr ⊢
  cases hh : w.heap[r]? with
  | none => rw [hh] at hr; simp at hr
  | some o =>
    rw [hh] at hr
    have hh' := fun w' (hb : Below w.heap.size w w') => Below.heapSome hb hh
    cases o <;> simp at hr
    all_goals
      obtain ⟨rfl, rfl⟩ := hr
      exact ⟨rfl, fun w' hb => by rw [hh' w' hb]⟩
theorem looks_len (l : Array TypeId) (t : TypeId) (xs : Array Value) : Looks P (Builtin.len_ l t xs) := by
  unfold Builtin.len_
  repeat'
    (first
      | exact (Blind.pure_ _).looks
      | exact (dead_stuck _).blind.looks
      | exact (blind_underlying _).looks
      | exact looks_getObj _
      | refine Looks.bind_ ?_ fun _ => ?_
      | split
      | dsimp only)
theorem grows_newObj (o : Obj) : Grows P (newObj o) := fun w v w1 hr => by
  simp [newObj, Sem.run] at hr
  obtain ⟨_, rfl⟩ := hr
  exact (Below.refl w.heap.size w).alloc (Nat.le_refl _) o
theorem Blind.grows {m : Sem α} (h : Blind P m) : Grows P m := h.looks.grows
theorem grows_newRow (e : TypeId) (cs : Array Value) : Grows P (newRow e cs) := (grows_newObj _).bind_ fun _ => (Blind.pure_ _).grows
theorem grows_newVar (e : TypeId) (v : Value) : Grows P (newVar e v) := grows_newRow _ _
theorem grows_choose (q : Question) : Grows P (choose q) := fun w v w1 hr => by
  simp only [choose, Sem.run] at hr
  split at hr <;> cases hr
  · exact Below.refl _ _
  · exact (Below.refl w.heap.size w).drew
theorem grows_askRoom (n : Nat) : Grows P (askRoom n) := fun w v w1 hr => by
  unfold askRoom at hr
  split at hr <;> simp [mark, Sem.run] at hr <;> (cases hr; exact Below.refl _ _)
theorem grows_alloc (e : TypeId) (v : Value) : Grows P (Instr.alloc e true v) := by
  unfold Instr.alloc
  refine (blind_zeroValue _).grows.bind_ fun _ => ?_
  split
  · rename_i h _ _ _
    exact absurd ‹true = false› (by decide)
  · exact (grows_newVar _ _).bind_ fun _ => (Blind.pure_ _).grows
theorem grows_box (e : TypeId) (v : Value) : Grows P (Instr.box e v) := (grows_newVar _ _).bind_ fun _ => (Blind.pure_ _).grows
theorem grows_buildSlice (t : TypeId) (n : Nat) (l : Array (Nat × Value)) : Grows P (Instr.buildSlice t n l) := by
  unfold Instr.buildSlice
  repeat'
    (first
      | exact (Blind.pure_ _).grows
      | exact (dead_stuck _).blind.grows
      | exact (dead_unsupported _).blind.grows
      | exact (blind_underlying _).grows
      | exact (blind_sizeOf _).grows
      | exact (blind_zeroValue _).grows
      | exact grows_newRow _ _
      | refine Grows.bind_ ?_ fun _ => ?_
      | split
      | dsimp only)
theorem grows_makeSlice (t : TypeId) (l c : Value) : Grows P (Instr.makeSlice t l c) := by
  unfold Instr.makeSlice
  repeat'
    (first
      | exact (Blind.pure_ _).grows
      | exact (dead_stuck _).blind.grows
      | exact (dead_runtimePanic _).blind.grows
      | exact (blind_underlying _).grows
      | exact (blind_typeInfo _).grows
      | exact (blind_asInt _).grows
      | exact (blind_sizeOf _).grows
      | exact (blind_zeroValue _).grows
      | exact grows_choose _
      | exact grows_askRoom _
      | exact grows_newRow _ _
      | refine Grows.bind_ ?_ fun _ => ?_
      | split
      | dsimp only)
theorem grows_makeMap (t : TypeId) (r : Option Value) : Grows P (Instr.makeMap t r) := by
  unfold Instr.makeMap
  repeat'
    (first
      | exact (Blind.pure_ _).grows
      | exact (dead_stuck _).blind.grows
      | exact (blind_underlying _).grows
      | exact (blind_asInt _).grows
      | exact grows_newObj _
      | refine Grows.bind_ ?_ fun _ => ?_
      | split
      | dsimp only)
end
end Go.Proofs.YtloffgoenaomkaaDoor.Ord
