/- A region whose order is drawn, walked in ONE order: operations that only look, and those that only make new memory, may change places. Over any program. No program's function is walked here. -/
import Derived.Test.YtloffgoenaomkaaDoorOrdSem
import Derived.Test.YtloffgoenaomkaaDoorFold0
import Derived.BigQuiet
import Derived.Deep.QuietTactic
import Derived.WalkSpells
import Derived.Great.BuildSlice
import Derived.Outline
namespace Go.Proofs.YtloffgoenaomkaaDoor.Ord
open Go Go.RowKit
/-- What an operation is to the others of its region. -/
inductive Kind where
  | blind
  | looks
  | grows
  | other
def fieldSized (P : Program) (s : TypeId) (f : Nat) : Bool := match P.underlying s with
  | some (.struct fields) => match fields[f]? with
    | some x => match P.info? x.type with
      | some i => i.size != 0
      | none => true
    | none => true
  | _ => true
def kindOf (P : Program) (o : Oper) : Kind := match o.op with
  | .move _ => .blind
  | .assign _ => .blind
  | .pick _ _ _ => .blind
  | .nilCheck _ => .blind
  | .indexAddr _ _ _ => .blind
  | .slice _ _ _ _ _ => .blind
  | .build _ _ => .blind
  | .extract _ _ => .blind
  | .makeFunc _ _ _ => .blind
  | .fieldAddr s _ f => if fieldSized P s f then .blind else .other
  | .load _ _ => .looks
  | .call c => match c.callee with
    | .builtin .len => .looks
    | _ => .other
  | .alloc _ => .grows
  | .box _ _ => .grows
  | .buildSlice _ _ _ => .grows
  | .makeSlice _ _ _ => .grows
  | .makeMap _ _ => .grows
  | _ => .other
section
variable {P : Program}
theorem blind_next {m : Sem Value} (h : Blind P m) {w : World} {n : Next} {w1 : World} (hr : (m >>= fun v => (pure (.value v) : Sem Next)).run P w = .ok n w1) :
    (∃ v, n = .value v) ∧ w1 = w ∧ ∀ w', (m >>= fun v => (pure (.value v) : Sem Next)).run P w' = .ok n w' := by
  have hb := (h.bind_ (f := fun v => (pure (.value v) : Sem Next)) fun _ => Blind.pure_ _) w n w1 hr
  refine ⟨?_, hb⟩
  rw [Sem.run_bind] at hr
  obtain ⟨u, w2, _, h2⟩ := andThen_ok hr
  rw [Sem.run_pure] at h2
  cases h2
  exact ⟨_, rfl⟩
theorem looks_next {m : Sem Value} (h : Looks P m) {w : World} {n : Next} {w1 : World} (hr : (m >>= fun v => (pure (.value v) : Sem Next)).run P w = .ok n w1) :
    (∃ v, n = .value v) ∧ w1 = w ∧ ∀ w', Below w.heap.size w w' → (m >>= fun v => (pure (.value v) : Sem Next)).run P w' = .ok n w' := by
  have hb := (h.bind_ (f := fun v => (pure (.value v) : Sem Next)) fun _ => (Blind.pure_ _).looks) w n w1 hr
  refine ⟨?_, hb⟩
  rw [Sem.run_bind] at hr
  obtain ⟨u, w2, _, h2⟩ := andThen_ok hr
  rw [Sem.run_pure] at h2
  cases h2
  exact ⟨_, rfl⟩
theorem grows_next {m : Sem Value} (h : Grows P m) {w : World} {n : Next} {w1 : World} (hr : (m >>= fun v => (pure (.value v) : Sem Next)).run P w = .ok n w1) :
    (∃ v, n = .value v) ∧ Below w.heap.size w w1 := by
  have hb := (h.bind_ (f := fun v => (pure (.value v) : Sem Next)) fun _ => (Blind.pure_ _).grows) w n w1 hr
  refine ⟨?_, hb⟩
  rw [Sem.run_bind] at hr
  obtain ⟨u, w2, _, h2⟩ := andThen_ok hr
  rw [Sem.run_pure] at h2
  cases h2
  exact ⟨_, rfl⟩
theorem blind_fieldPlace {fl : Field} (hz : ∀ i, P.info? fl.type = some i → i.size ≠ 0) (a : Addr) : Blind P (fieldPlace a fl) := by
  unfold fieldPlace
  intro w v w1 hr
  rw [Sem.run_bind] at hr
  obtain ⟨z, w2, h3, h4⟩ := andThen_ok hr
  obtain ⟨rfl, h3'⟩ := blind_sizeOf fl.type _ _ _ h3
  have hz : z ≠ 0 := by
    simp only [sizeOf, typeInfo, Sem.run_bind, program, Sem.run, Result.andThen_ok] at h3
    cases hi : P.info? fl.type with
    | none => rw [hi] at h3; simp [stuck] at h3
    | some i =>
      rw [hi] at h3
      simp only [Sem.run_pure, Result.andThen_ok] at h3
      injection h3 with h3
      subst h3
      exact hz i hi
  rw [if_neg hz] at h4
  rw [Sem.run_pure] at h4
  cases h4
  exact ⟨rfl, fun w' => by rw [Sem.run_bind, h3' w', Result.andThen_ok, if_neg hz, Sem.run_pure]⟩
theorem run_underlying_some {t : TypeId} {d : TypeDesc} (h : P.underlying t = some d) (w : World) : (underlying t).run P w = .ok d w := by
  simp [underlying, program, Sem.run, h]
theorem blind_fieldAt {s : TypeId} {f : Nat} (h : fieldSized P s f = true) (x : Value) : Blind P (Instr.fieldAt s x f) := by
  unfold Instr.fieldAt
  cases hu : P.underlying s with
  | none =>
    refine Dead.blind fun w v w1 hr => ?_
    rw [Sem.run_bind] at hr
    obtain ⟨d, w2, h1, _⟩ := andThen_ok hr
    simp [underlying, program, Sem.run, hu, stuck] at h1
  | some d =>
    intro w v w1 hr
    simp only [Sem.run_bind, run_underlying_some hu, Result.andThen_ok] at hr ⊢
    cases d with
    | struct fields =>
      simp only at hr ⊢
      cases hf : fields[f]? with
      | none => rw [hf] at hr; simp [stuck] at hr
      | some fl =>
        rw [hf] at hr
        simp only at hr ⊢
        have hz : ∀ i, P.info? fl.type = some i → i.size ≠ 0 := fun i hi => by
          simp only [fieldSized, hu, hf, hi] at h
          simpa using h
        exact ((blind_sureAddr x).bind_ fun a => (blind_fieldPlace hz a).bind_ fun p => Blind.pure_ (Value.pointer (some p))) _ _ _ hr
    | _ => simp [stuck] at hr
/-- Whatever comes is a value. -/
def Vals (P : Program) (m : Sem Next) : Prop := ∀ w n w1, m.run P w = .ok n w1 → ∃ v, n = .value v
theorem Vals.bind_ {α : Type} {m : Sem α} {f : α → Sem Next} (hf : ∀ a, Vals P (f a)) : Vals P (m >>= f) := fun w n w1 hr => by
  rw [Sem.run_bind] at hr
  obtain ⟨u, w2, h1, h2⟩ := andThen_ok hr
  exact hf u _ _ _ h2
theorem Vals.pure_ (v : Value) : Vals P (Pure.pure (.value v) : Sem Next) := fun w n w1 hr => by
  rw [Sem.run_pure] at hr
  cases hr
  exact ⟨v, rfl⟩
theorem Dead.vals {m : Sem Next} (h : Dead P m) : Vals P m := fun w n w1 hr => absurd hr (h w n w1)
theorem blind_spec {o : Oper} (h : kindOf P o = .blind) {ρ : Operand → Value} {w : World} {n : Next} {w1 : World} (hr : (execOp ρ o).run P w = .ok n w1) :
    (∃ v, n = .value v) ∧ w1 = w ∧ ∀ w', (execOp ρ o).run P w' = .ok n w' := by
  obtain ⟨dst, op, ty, pos, af, gd⟩ := o
  cases op <;> simp only [kindOf] at h <;> (try (cases h; done))
  case fieldAddr =>
    split at h
    · rename_i hs; exact blind_next (blind_fieldAt hs _) hr
    · cases h
  case call c =>
    exfalso
    revert h
    repeat' (first | (split) | (intro h; cases h; done))
  case move x => exact blind_next (Blind.pure_ (ρ x)) hr
  case assign x => exact blind_next (Blind.pure_ (ρ x)) hr
  case pick c a b =>
    have hv : Vals P (execOp ρ ⟨dst, .pick c a b, ty, pos, af, gd⟩) := by
      simp only [execOp]
      exact Vals.bind_ fun _ => Vals.pure_ _
    have hb : Blind P (execOp ρ ⟨dst, .pick c a b, ty, pos, af, gd⟩) := by
      simp only [execOp]
      exact (blind_asBool _).bind_ fun _ => Blind.pure_ _
    exact ⟨hv _ _ _ hr, hb _ _ _ hr⟩
  case indexAddr => exact blind_next (blind_indexAt _ _ _) hr
  case slice => exact blind_next (blind_sliceAt _ _ _ _ _) hr
  case build => exact blind_next (blind_build _ _) hr
  case extract => exact blind_next (blind_extract _ _) hr
  case makeFunc => exact blind_next (Blind.pure_ _) hr
  case nilCheck x =>
    have hv : Vals P (execOp ρ ⟨dst, .nilCheck x, ty, pos, af, gd⟩) := by
      simp only [execOp]
      repeat'
        (first
          | exact Vals.pure_ _
          | exact (dead_unsupported _).vals
          | exact (dead_runtimePanic _).vals
          | refine Vals.bind_ fun _ => ?_
          | split
          | dsimp only)
    have hb : Blind P (execOp ρ ⟨dst, .nilCheck x, ty, pos, af, gd⟩) := by
      simp only [execOp]
      repeat'
        (first
          | exact Blind.pure_ _
          | exact (dead_unsupported _).blind
          | exact (dead_runtimePanic _).blind
          | exact blind_program
          | exact blind_nilAhead _ _ _ _
          | refine Blind.bind_ ?_ fun _ => ?_
          | split
          | dsimp only)
    exact ⟨hv _ _ _ hr, hb _ _ _ hr⟩
theorem looks_spec {o : Oper} (h : kindOf P o = .looks) {ρ : Operand → Value} {w : World} {n : Next} {w1 : World} (hr : (execOp ρ o).run P w = .ok n w1) :
    (∃ v, n = .value v) ∧ w1 = w ∧ ∀ w', Below w.heap.size w w' → (execOp ρ o).run P w' = .ok n w' := by
  obtain ⟨dst, op, ty, pos, af, gd⟩ := o
  cases op <;> simp only [kindOf] at h <;> (try (cases h; done))
  case fieldAddr =>
    split at h <;> cases h
  case load => exact looks_next (looks_loadAt _ _) hr
  case call c =>
    obtain ⟨cal, args, tys⟩ := c
    cases cal <;> simp only at h <;> (try (cases h; done))
    case builtin b =>
      cases b <;> simp only at h <;> (try (cases h; done))
      simp only [execOp, resolve, Sem.run_bind, Sem.run_pure, Result.andThen_ok, invoke, builtin] at hr ⊢
      have hb := looks_next (P := P) (w := w) (n := n) (w1 := w1) (looks_len tys ty (args.map ρ)) (by rw [Sem.run_bind]; exact hr)
      exact ⟨hb.1, hb.2.1, fun w' hw => by have := hb.2.2 w' hw; rw [Sem.run_bind] at this; exact this⟩
theorem grows_spec {o : Oper} (h : kindOf P o = .grows) {ρ : Operand → Value} {w : World} {n : Next} {w1 : World} (hr : (execOp ρ o).run P w = .ok n w1) :
    (∃ v, n = .value v) ∧ Below w.heap.size w w1 := by
  obtain ⟨dst, op, ty, pos, af, gd⟩ := o
  cases op <;> simp only [kindOf] at h <;> (try (cases h; done))
  case fieldAddr =>
    split at h <;> cases h
  case call c =>
    exfalso
    revert h
    repeat' (first | (split) | (intro h; cases h; done))
  case alloc => exact grows_next (grows_alloc _ _) hr
  case box => exact grows_next (grows_box _ _) hr
  case buildSlice => exact grows_next (grows_buildSlice _ _ _) hr
  case makeSlice => exact grows_next (grows_makeSlice _ _ _) hr
  case makeMap => exact grows_next (grows_makeMap _ _) hr
end
section
variable {P : Program} {ops : Array Oper} {Q : Exit → Act → World → Prop} {md : Region.Mode} {L M : List Nat}
/-- Does operation i leave all that was there as it was? -/
def keepsB (P : Program) (ops : Array Oper) (L : List Nat) (i : Nat) : Bool := match ops[i]? with
  | none => true
  | some o => match kindOf P o with
    | .other => L.contains i
    | _ => true
/-- Any order; behind an operation that keeps what was there, that is so. -/
def wpB (P : Program) (md : Region.Mode) (ops : Array Oper) (Q : Exit → Act → World → Prop) (L : List Nat) : Nat → Array Bool → Act → World → Prop
  | 0, listed, a, w => Region.ready md ops listed = [] ∧ Q .normal a w
  | k + 1, listed, a, w => (Region.ready md ops listed = [] → Q .normal a w) ∧
      ∀ i ∈ Region.ready md ops listed, wpOp P ops Q i (fun a' w' => (keepsB P ops L i = true → Below w.heap.size w w') ∧ wpB P md ops Q L k (listed.setIfInBounds i true) a' w') a w
theorem wpAny_of_wpB : ∀ (k : Nat) (listed : Array Bool) (a : Act) (w : World), wpB P md ops Q L k listed a w → wpAny P md ops Q k listed a w
  | 0, _, _, _, h => h
  | k + 1, _, _, _, h => ⟨h.1, fun i hi => wpOp_mono (fun a' w' x => wpAny_of_wpB k _ a' w' x.2) (h.2 i hi)⟩
/-- Whatever has come up, all that it waits for has come up. -/
structure Closed (md : Region.Mode) (ops : Array Oper) (listed : Array Bool) : Prop where
  size : listed.size = ops.size
  back : ∀ j oj, ops[j]? = some oj → listed.getD j false = true → ∀ e ∈ oj.after, Region.binds md e = true → listed.getD e.on false = true
theorem Closed.start : Closed md ops (Array.replicate ops.size false) := ⟨by simp, fun j oj _ hl => by
  exfalso
  by_cases h : j < ops.size <;> simp [h] at hl⟩
theorem Closed.set {i : Nat} {listed : Array Bool} (h : Closed md ops listed) (hi : i ∈ Region.ready md ops listed) : Closed md ops (listed.setIfInBounds i true) := by
  obtain ⟨_, oi, hoi, hall⟩ := mem_ready.1 hi
  refine ⟨by simp [h.size], fun j oj hj hl e he hb => ?_⟩
  by_cases hij : i = j
  · subst hij
    have : oj = oi := Option.some.inj (hj.symm.trans hoi)
    subst this
    exact getD_set_true (hall e he hb)
  · rw [getD_set_ne false hij] at hl
    exact getD_set_true (h.back j oj hj hl e he hb)
/-- Does j wait for i, perhaps by way of others? -/
def waitsT (md : Region.Mode) (ops : Array Oper) : Nat → Nat → Nat → Bool
  | 0, _, _ => false
  | f + 1, j, i => match ops[j]? with
    | none => false
    | some o => o.after.any fun e => Region.binds md e && (e.on == i || waitsT md ops f e.on i)
theorem listed_of_waits {listed : Array Bool} (hc : Closed md ops listed) {i : Nat} : ∀ (f j : Nat), waitsT md ops f j i = true → listed.getD j false = true → listed.getD i false = true
  | 0, j, h, _ => by cases h
  | f + 1, j, h, hl => by
    unfold waitsT at h
    split at h
    · cases h
    · rename_i o ho
      obtain ⟨e, he, hb⟩ := Array.any_eq_true'.1 h
      simp only [Bool.and_eq_true, Bool.or_eq_true, beq_iff_eq] at hb
      have h1 := hc.back j o ho hl e he hb.1
      rcases hb.2 with h2 | h2
      · rw [← h2]; exact h1
      · exact listed_of_waits hc f e.on h2 h1
theorem waits_not_ready {listed : Array Bool} (hc : Closed md ops listed) {i j f : Nat} (h : waitsT md ops f j i = true) (hj : j ∈ Region.ready md ops listed) : listed.getD i false = true := by
  obtain ⟨_, o', ho', hall⟩ := mem_ready.1 hj
  cases f with
  | zero => cases h
  | succ f =>
    unfold waitsT at h
    rw [ho'] at h
    obtain ⟨e, he, hb⟩ := Array.any_eq_true'.1 h
    simp only [Bool.and_eq_true, Bool.or_eq_true, beq_iff_eq] at hb
    have h1 := hall e he hb.1
    rcases hb.2 with h2 | h2
    · rw [← h2]; exact h1
    · exact listed_of_waits hc f e.on h2 h1
theorem unlisted {listed : Array Bool} {i : Nat} (h : listed.getD i true = false) : listed.getD i false = false := by
  rcases Nat.lt_or_ge i listed.size with h' | h'
  · simp [h'] at h ⊢; exact h
  · simp [Array.getElem?_eq_none h'] at h
theorem wpB_first {i : Nat} {oi : Oper} {v : Value} (U : World → Prop) (hU : ∀ w w', U w → Below w.heap.size w w' → U w') (hi : ops[i]? = some oi) (hsel : ∀ (j : Nat) (o : Oper) cs b, ops[j]? = some o → o.op ≠ .select cs b)
    (hQ : ∀ c a w, Q (.panic c) (a.put oi.dst v) w → Q (.panic c) a w) :
    ∀ (k : Nat) (listed : Array Bool) (a : Act) (w : World), Closed md ops listed →
      (∀ j oj, ops[j]? = some oj → j ≠ i → listed.getD j true = false → (∀ e ∈ oj.after, Region.binds md e = true → e.on ≠ i) → oi.apart ops oj = true) →
      ((∀ w, U w) ∨ ∀ j, listed.getD j true = false → j ≠ i → keepsB P ops L j = false → ∃ f, waitsT md ops f j i = true) →
      i ∈ Region.ready md ops listed → YieldsIf P ops U oi v a → U w →
      wpB P md ops Q L k (listed.setIfInBounds i true) (a.put oi.dst v) w → wpB P md ops Q L (k + 1) listed a w := by
  intro k
  induction k with
  | zero =>
    intro listed a w hcl _ _ hr hy hu H
    refine ⟨fun h => absurd hr (by rw [h]; simp), fun j hj => ?_⟩
    by_cases hji : j = i
    · subst hji
      exact hy.wpOp hi hu ⟨fun _ => Below.refl _ _, H⟩
    · exact absurd (ready_mono hj hji) (by rw [H.1]; simp)
  | succ k ih =>
    intro listed a w hcl hfree hB hr hy hu H
    refine ⟨fun h => absurd hr (by rw [h]; simp), fun j hj => ?_⟩
    by_cases hji : j = i
    · subst hji
      exact hy.wpOp hi hu ⟨fun _ => Below.refl _ _, H⟩
    · obtain ⟨hun, oj, hoj, hall⟩ := mem_ready.1 hj
      have hi0 := (mem_ready.1 hr).1
      have hi1 := unlisted hi0
      have hno : ∀ e ∈ oj.after, Region.binds md e = true → e.on ≠ i := fun e he hb heq => by
        have h1 := hall e he hb
        rw [heq, hi1] at h1
        cases h1
      have hkeep : (∀ w, U w) ∨ keepsB P ops L j = true := by
        rcases hB with h | h
        · exact .inl h
        · cases hk : keepsB P ops L j with
          | true => exact .inr rfl
          | false =>
            obtain ⟨f, hf⟩ := h j hun hji hk
            have := waits_not_ready hcl hf hj
            rw [hi1] at this
            cases this
      refine wpOp_mono (fun a' w' x => ?_) (wpOp_putIf hoj (hfree j oj hoj hji hun hno) (fun cs b => hsel i oi cs b hi) (fun cs b => hsel j oj cs b hoj) hQ hy (H.2 j (ready_mono hj hji)))
      have hu' : U w' := by
        rcases hkeep with h | h
        · exact h w'
        · exact hU w w' hu (x.2.1 h)
      refine ⟨x.2.1, ih (listed.setIfInBounds j true) a' w' (hcl.set hj) (fun m om hm hmi hmu hmo => ?_) ?_ (ready_mono hr (Ne.symm hji)) x.1 hu' ?_⟩
      · refine hfree m om hm hmi ?_ hmo
        by_cases hjm : j = m
        · subst hjm; exact hun
        · rw [getD_set_ne true hjm] at hmu; exact hmu
      · rcases hB with h | h
        · exact .inl h
        · refine .inr fun m hm hmi hk => h m ?_ hmi hk
          by_cases hjm : j = m
          · subst hjm; exact hun
          · rw [getD_set_ne true hjm] at hm; exact hm
      · rw [Array.setIfInBounds_comm _ _ hji]
        exact x.2.2
/-- The one order: behind each operation of L all that was there is to be as it was; each of M is to yield what it yields in whatever world. -/
def wpOrd (P : Program) (ops : Array Oper) (Q : Exit → Act → World → Prop) (L M : List Nat) : List Nat → Act → World → Prop
  | [], a, w => Q .normal a w
  | i :: r, a, w => if M.contains i = true then ∃ o v, ops[i]? = some o ∧ YieldsIf P ops (fun _ => True) o v a ∧ wpOrd P ops Q L M r (a.put o.dst v) w
    else wpOp P ops Q i (fun a' w' => (L.contains i = true → Below w.heap.size w w') ∧ wpOrd P ops Q L M r a' w') a w
/-- May the operations be walked in this order? -/
def okOrd (P : Program) (md : Region.Mode) (ops : Array Oper) (L M : List Nat) : List Nat → Array Bool → Bool
  | [], listed => (Region.ready md ops listed).isEmpty
  | i :: r, listed => (match ops[i]? with
    | none => false
    | some o => if M.contains i then (Region.ready md ops listed).contains i && Region.free md ops listed i else match kindOf P o with
      | .blind => (Region.ready md ops listed).contains i && Region.free md ops listed i
      | .looks => (Region.ready md ops listed).contains i && Region.free md ops listed i && (List.range ops.size).all fun j => listed.getD j true || j == i || keepsB P ops (L ++ M) j || waitsT md ops ops.size j i
      | _ => Region.ready md ops listed == [i]) && okOrd P md ops L M r (listed.setIfInBounds i true)
/-- Q, but a panic is shown not to be. -/
def NP (Q : Exit → Act → World → Prop) : Exit → Act → World → Prop
  | .panic _, _, _ => False
  | .outgrown, _, _ => False
  | e, a, w => Q e a w
theorem NP.imp : ∀ (e : Exit) (a : Act) (w : World), NP Q e a w → Q e a w := fun e a w h => by
  cases e <;> first | exact h | exact (h : False).elim
theorem NP.noAsk (h : LetsOut (NP Q)) : False := by obtain ⟨_, _, h⟩ := h; exact h
/-- What an operation that only looks does. -/
theorem looks_first {i : Nat} {o : Oper} {a : Act} {w : World} {K : Act → World → Prop} (hi : ops[i]? = some o) (hk : kindOf P o = .looks) (h : wpOp P ops (NP Q) i K a w) :
    ∃ v, YieldsIf P ops (fun x => Below w.heap.size w x) o v a ∧ K (a.put o.dst v) w := by
  unfold wpOp at h
  simp only [hi] at h
  by_cases hw : Region.wanted o (yielded ops a.tmps) = true
  · rw [if_pos hw] at h
    rcases h with h | ⟨_, h⟩
    · unfold Oper.wp at h
      cases hr : (execOp a.eval o).run P w with
      | ok n w1 =>
        obtain ⟨⟨v, rfl⟩, rfl, hs⟩ := looks_spec hk hr
        rw [hr] at h
        exact ⟨v, .inl ⟨hw, fun x hx => hs x hx⟩, h⟩
      | halt x w1 =>
        rw [hr] at h
        cases x <;> exact (h : False).elim
    · exact (NP.noAsk h).elim
  · rw [if_neg hw] at h
    exact ⟨undef, .inr ⟨by simpa using hw, rfl⟩, h⟩
theorem blind_first {i : Nat} {o : Oper} {a : Act} {w : World} {K : Act → World → Prop} (hi : ops[i]? = some o) (hk : kindOf P o = .blind) (h : wpOp P ops (NP Q) i K a w) :
    ∃ v, YieldsIf P ops (fun _ => True) o v a ∧ K (a.put o.dst v) w := by
  unfold wpOp at h
  simp only [hi] at h
  by_cases hw : Region.wanted o (yielded ops a.tmps) = true
  · rw [if_pos hw] at h
    rcases h with h | ⟨_, h⟩
    · unfold Oper.wp at h
      cases hr : (execOp a.eval o).run P w with
      | ok n w1 =>
        obtain ⟨⟨v, rfl⟩, rfl, hs⟩ := blind_spec hk hr
        rw [hr] at h
        exact ⟨v, .inl ⟨hw, fun x _ => hs x⟩, h⟩
      | halt x w1 =>
        rw [hr] at h
        cases x <;> exact (h : False).elim
    · exact (NP.noAsk h).elim
  · rw [if_neg hw] at h
    exact ⟨undef, .inr ⟨by simpa using hw, rfl⟩, h⟩
theorem grows_first {i : Nat} {o : Oper} {a : Act} {w : World} {K : Act → World → Prop} (hi : ops[i]? = some o) (hk : kindOf P o = .grows) (h : wpOp P ops (NP Q) i K a w) :
    wpOp P ops (NP Q) i (fun a' w' => Below w.heap.size w w' ∧ K a' w') a w := by
  unfold wpOp at h ⊢
  simp only [hi] at h ⊢
  by_cases hw : Region.wanted o (yielded ops a.tmps) = true
  · rw [if_pos hw] at h ⊢
    rcases h with h | ⟨_, h⟩
    · left
      unfold Oper.wp at h ⊢
      cases hr : (execOp a.eval o).run P w with
      | ok n w1 =>
        obtain ⟨⟨v, rfl⟩, hb⟩ := grows_spec hk hr
        rw [hr] at h
        exact ⟨hb, h⟩
      | halt x w1 =>
        rw [hr] at h
        cases x <;> exact (h : False).elim
    · exact (NP.noAsk h).elim
  · rw [if_neg hw] at h ⊢
    exact ⟨Below.refl _ _, h⟩
theorem wpB_of_ord (hsel : Region.noSelect ops = true) : ∀ (order : List Nat) (listed : Array Bool) (a : Act) (w : World), Closed md ops listed → okOrd P md ops L M order listed = true →
    wpOrd P ops (NP Q) L M order a w → wpB P md ops (NP Q) (L ++ M) order.length listed a w
  | [], listed, a, w, _, hok, h => ⟨by simpa [okOrd] using hok, h⟩
  | i :: r, listed, a, w, hcl, hok, h => by
    have hsp := Region.noSelect_spec hsel
    unfold okOrd at hok
    rw [Bool.and_eq_true] at hok
    obtain ⟨h1, h2⟩ := hok
    split at h1
    · cases h1
    · rename_i o ho
      by_cases hM : M.contains i = true
      · rw [if_pos hM, Bool.and_eq_true] at h1
        have hr : i ∈ Region.ready md ops listed := by simpa using h1.1
        unfold wpOrd at h
        rw [if_pos hM] at h
        obtain ⟨o', v, ho', hy, hK⟩ := h
        have e : o' = o := Option.some.inj (ho'.symm.trans ho)
        subst e
        exact wpB_first (fun _ => True) (fun _ _ _ _ => trivial) ho hsp (fun _ _ _ x => x) r.length listed a w hcl (Region.free_spec ho h1.2) (.inl fun _ => trivial) hr hy trivial
          (wpB_of_ord hsel r _ _ _ (hcl.set hr) h2 hK)
      rw [if_neg hM] at h1
      unfold wpOrd at h
      rw [if_neg hM] at h
      split at h1
      · rename_i hk
        simp only [Bool.and_eq_true, List.contains_iff_mem] at h1
        have hr : i ∈ Region.ready md ops listed := by simpa using h1.1
        obtain ⟨v, hy, hK⟩ := blind_first ho hk h
        exact wpB_first (fun _ => True) (fun _ _ _ _ => trivial) ho hsp (fun _ _ _ x => x) r.length listed a w hcl (Region.free_spec ho h1.2) (.inl fun _ => trivial) hr hy trivial
          (wpB_of_ord hsel r _ _ _ (hcl.set hr) h2 hK.2)
      · rename_i hk
        simp only [Bool.and_eq_true] at h1
        have hr : i ∈ Region.ready md ops listed := by simpa using h1.1.1
        obtain ⟨v, hy, hK⟩ := looks_first ho hk h
        refine wpB_first (fun x => Below w.heap.size w x) (fun x y hx hxy => hx.trans (hxy.mono hx.size)) ho hsp (fun _ _ _ x => x) r.length listed a w hcl (Region.free_spec ho h1.1.2) (.inr fun j hj hji hkj => ?_) hr hy (Below.refl _ _)
          (wpB_of_ord hsel r _ _ _ (hcl.set hr) h2 hK.2)
        have hlt : j < ops.size := by
          rcases Nat.lt_or_ge j listed.size with h' | h'
          · rw [hcl.size] at h'; exact h'
          · simp [Array.getElem?_eq_none h'] at hj
        have := List.all_eq_true.1 h1.2 j (List.mem_range.2 hlt)
        simp only [hj, hkj, Bool.false_or, Bool.or_eq_true, beq_iff_eq, hji, false_or, Bool.or_false] at this
        exact ⟨_, this⟩
      · rename_i hk1 hk2
        have hr : Region.ready md ops listed = [i] := by simpa using h1
        have hm : i ∈ Region.ready md ops listed := by rw [hr]; simp
        refine ⟨fun h0 => absurd h0 (by rw [hr]; simp), fun j hj => ?_⟩
        have hj' : j = i := by rw [hr] at hj; simpa using hj
        subst hj'
        have hgo : ∀ a' w', wpOrd P ops (NP Q) L M r a' w' → wpB P md ops (NP Q) (L ++ M) r.length (listed.setIfInBounds j true) a' w' := fun a' w' x => wpB_of_ord hsel r _ _ _ (hcl.set hm) h2 x
        cases hk : kindOf P o with
        | blind => exact absurd hk hk1
        | looks => exact absurd hk hk2
        | grows => exact wpOp_mono (fun a' w' x => ⟨fun _ => x.1, hgo _ _ x.2.2⟩) (grows_first ho hk h)
        | other =>
          refine wpOp_mono (fun a' w' x => ⟨fun hb => x.1 ?_, hgo _ _ x.2⟩) h
          have hb' : j ∈ L ∨ j ∈ M := by simpa [keepsB, ho, hk] using hb
          rcases hb' with hb' | hb'
          · simpa using hb'
          · exact absurd (by simpa using hb') hM
/-- **A region whose order is drawn may be walked in one order.** -/
theorem region_ord {id : Nat} {a : Act} {w : World} (L order : List Nat) (hm : P.follows .mixedOrders = true) (hsel : Region.noSelect ops = true) (hlen : order.length = ops.size)
    (hok : okOrd P .any ops L [] order (Array.replicate ops.size false) = true) (h : wpOrd P ops (NP Q) L [] order a w.drew) : (Code.region id ops true).wp P Q a w := by
  refine Code.wp_mono NP.imp (wp_region_any hm ?_)
  rw [← hlen]
  have := wpB_of_ord (md := .any) hsel order _ a w.drew Closed.start hok h
  exact wpAny_of_wpB _ _ _ _ (by rw [hlen] at this ⊢; exact this)
/-- .. where the operations of M are shown to yield what they yield in whatever world. -/
theorem region_ordM {id : Nat} {a : Act} {w : World} (L M order : List Nat) (hm : P.follows .mixedOrders = true) (hsel : Region.noSelect ops = true) (hlen : order.length = ops.size)
    (hok : okOrd P .any ops L M order (Array.replicate ops.size false) = true) (h : wpOrd P ops (NP Q) L M order a w.drew) : (Code.region id ops true).wp P Q a w := by
  refine Code.wp_mono NP.imp (wp_region_any hm ?_)
  rw [← hlen]
  have := wpB_of_ord (md := .any) hsel order _ a w.drew Closed.start hok h
  exact wpAny_of_wpB _ _ _ _ (by rw [hlen] at this ⊢; exact this)
/-- A piece of the order, then the rest. -/
def NX (Q : Exit → Act → World → Prop) (K : Act → World → Prop) : Exit → Act → World → Prop
  | .normal, a, w => K a w
  | .panic _, _, _ => False
  | .outgrown, _, _ => False
  | e, a, w => Q e a w
theorem wp_next {o : Oper} {a : Act} {w : World} {K K' K0 : Act → World → Prop} (hK : ∀ a w, K a w → K' a w) (h : o.wp P a w K (NX (NP Q) K0)) : o.wp P a w K' (NP Q) := by
  unfold Oper.wp at *
  generalize (execOp a.eval o).run P w = r at *
  cases r with
  | ok n w' =>
    cases n <;> simp only [Oper.upon] at h ⊢ <;>
      first
        | exact hK _ _ h
        | exact Calls.mono h (fun e w'' he => by
            cases e
            · exact hK _ _ he
            · exact (he : False).elim
            · obtain ⟨_, _, he⟩ := he
              exact (he : False).elim)
        | exact Rows.mono h (fun _ _ he => hK _ _ he)
  | halt x w' => cases x <;> simp only [Oper.upon] at h ⊢ <;> exact (h : False).elim
/-- Operations that are walked in a row; none of them is one of L. -/
theorem ord_run {r : List Nat} : ∀ (l : List Nat) (lops : List Oper) {a : Act} {w : World}, l.map (ops[·]?) = lops.map some → (l.all fun i => !L.contains i && !M.contains i) = true →
    wpList P ops (NX (NP Q) (wpOrd P ops (NP Q) L M r)) lops a w → wpOrd P ops (NP Q) L M (l ++ r) a w
  | [], [], a, w, _, _, h => h
  | [], _ :: _, a, w, hl, _, h => by cases hl
  | _ :: _, [], a, w, hl, _, h => by cases hl
  | i :: l, o :: lops, a, w, hl, hL, h => by
    simp only [List.map_cons, List.cons.injEq] at hl
    simp only [List.all_cons, Bool.and_eq_true] at hL
    have ih := fun (a' : Act) (w' : World) => ord_run (r := r) l lops (a := a') (w := w') hl.2 hL.2
    have hnc : L.contains i = false := by simpa using hL.1.1
    have hnm : ¬ M.contains i = true := by simpa using hL.1.2
    show wpOrd P ops (NP Q) L M (i :: (l ++ r)) a w
    unfold wpOrd
    rw [if_neg hnm]
    unfold wpOp
    simp only [hl.1]
    unfold wpList at h
    split
    · rename_i hw
      rw [if_pos hw] at h
      rcases h with h | ⟨_, h⟩
      · exact .inl (wp_next (fun a' w' x => ⟨fun hc => (by rw [hnc] at hc; cases hc), ih a' w' x⟩) h)
      · obtain ⟨_, _, h⟩ := h
        exact (h : False).elim
    · rename_i hw
      rw [if_neg hw] at h
      exact ⟨fun hc => (by rw [hnc] at hc; cases hc), ih _ _ h⟩
/-- All that is left, in a row. -/
theorem ord_all {l : List Nat} (lops : List Oper) {a : Act} {w : World} (hl : l.map (ops[·]?) = lops.map some) (hL : (l.all fun i => !L.contains i && !M.contains i) = true)
    (h : wpList P ops (NX (NP Q) (NP Q .normal)) lops a w) : wpOrd P ops (NP Q) L M l a w := by
  have := ord_run (P := P) (Q := Q) (L := L) (M := M) (r := []) l lops hl hL h
  rwa [List.append_nil] at this
/-- An operation of L: behind it all that was there is shown to be as it was. -/
theorem ord_oneM {i : Nat} {o : Oper} {r : List Nat} {a : Act} {w : World} (hi : ops[i]? = some o) (hM : M.contains i = false)
    (h : wpList P ops (NX (NP Q) (fun a' w' => Below w.heap.size w w' ∧ wpOrd P ops (NP Q) L M r a' w')) [o] a w) : wpOrd P ops (NP Q) L M (i :: r) a w := by
  unfold wpOrd
  rw [if_neg (by rw [hM]; simp)]
  unfold wpOp
  simp only [hi]
  unfold wpList at h
  split
  · rename_i hw
    rw [if_pos hw] at h
    rcases h with h | ⟨_, h⟩
    · exact .inl (wp_next (fun a' w' x => ⟨fun _ => x.1, x.2⟩) h)
    · obtain ⟨_, _, h⟩ := h
      exact (h : False).elim
  · rename_i hw
    rw [if_neg hw] at h
    exact ⟨fun _ => h.1, h.2⟩
/-- The end of the order: the code goes on. -/
theorem nx_end {a : Act} {w : World} (h : Q .normal a w) : NX (NP Q) (NP Q .normal) .normal a w := h
theorem nx_ord {r : List Nat} {a : Act} {w : World} (h : wpOrd P ops (NP Q) L M r a w) : NX (NP Q) (wpOrd P ops (NP Q) L M r) .normal a w := h
theorem ord_one {i : Nat} {o : Oper} {r : List Nat} {a : Act} {w : World} (hi : ops[i]? = some o)
    (h : wpList P ops (NX (NP Q) (fun a' w' => Below w.heap.size w w' ∧ wpOrd P ops (NP Q) L [] r a' w')) [o] a w) : wpOrd P ops (NP Q) L [] (i :: r) a w := ord_oneM hi rfl h
/-- An operation of M. -/
theorem ord_pure {i : Nat} {o : Oper} {r : List Nat} {a : Act} {w : World} (v : Value) (hi : ops[i]? = some o) (hM : M.contains i = true) (hw : Region.wanted o (yielded ops a.tmps) = true)
    (hv : ∀ w', (execOp a.eval o).run P w' = .ok (.value v) w') (h : wpOrd P ops (NP Q) L M r (a.put o.dst v) w) : wpOrd P ops (NP Q) L M (i :: r) a w := by
  unfold wpOrd
  rw [if_pos hM]
  exact ⟨o, v, hi, .inl ⟨hw, fun w' _ => hv w'⟩, h⟩
theorem nx_and {r : List Nat} {a : Act} {w0 w : World} (hb : Below w0.heap.size w0 w) (h : wpOrd P ops (NP Q) L M r a w) : NX (NP Q) (fun a' w' => Below w0.heap.size w0 w' ∧ wpOrd P ops (NP Q) L M r a' w') .normal a w := ⟨hb, h⟩
end
end Go.Proofs.YtloffgoenaomkaaDoor.Ord
/- The small functions of package plant: a device, its size, a step. -/
namespace Go.Proofs.YtloffgoenaomkaaDoor.Pl
open Go Go.RowKit Mem
section
variable {w : World} {F : Nat → Prop} {a : Nat} {p : PM} {wc : Nat → Nat} {D T V W : Value}
theorem PlantB.c0 (h : PlantB w F a p wc D T V W) : w.cell? ⟨a, 0, none⟩ = some D := by rw [h.blk.cell]; rfl
theorem PlantB.c1 (h : PlantB w F a p wc D T V W) : w.cell? ⟨a, 1, none⟩ = some T := by rw [h.blk.cell]; rfl
theorem PlantB.c2 (h : PlantB w F a p wc D T V W) : w.cell? ⟨a, 2, none⟩ = some V := by rw [h.blk.cell]; rfl
theorem PlantB.c3 (h : PlantB w F a p wc D T V W) : w.cell? ⟨a, 3, none⟩ = some W := by rw [h.blk.cell]; rfl
theorem PlantB.c4 (h : PlantB w F a p wc D T V W) : w.cell? ⟨a, 4, none⟩ = some (.bool p.off) := by rw [h.blk.cell]; rfl
theorem PlantB.c5 (h : PlantB w F a p wc D T V W) : w.cell? ⟨a, 5, none⟩ = some (.int .i64 p.fuseI) := by rw [h.blk.cell]; rfl
theorem PlantB.c6 (h : PlantB w F a p wc D T V W) : w.cell? ⟨a, 6, none⟩ = some (.int .i64 (p.steps : Int)) := by rw [h.blk.cell]; rfl
theorem PlantB.c7 (h : PlantB w F a p wc D T V W) : w.cell? ⟨a, 7, none⟩ = some (.int .i64 (p.now : Int)) := by rw [h.blk.cell]; rfl
theorem PlantB.fz (h : PlantB w F a p wc D T V W) (k : Nat) : w.frozen? ⟨a, k, none⟩ = false := h.blk.frozen k
theorem DevsAt.form {ds : List Dev} {wc : Nat → Nat} (h : DevsAt w F V ds wc) (h0 : 0 < ds.length) : ∃ g cap, V = .slice (some ⟨g, 0, none⟩) ds.length cap := by
  obtain ⟨ms, h1, _⟩ := h
  obtain ⟨g, cap, cur, hv, _⟩ := h1.form h0
  exact ⟨g, cap, hv⟩
/-- A device's cells. -/
theorem DevsAt.cells {ds : List Dev} {wc : Nat → Nat} {g n cap : Nat} (h : DevsAt w F (.slice (some ⟨g, 0, none⟩) n cap) ds wc) {j : Nat} {d : Dev} (hd : ds[j]? = some d) :
    ∃ m, F m ∧ SecMap w m d.at_ ∧ w.cell? ⟨g, j * 5, none⟩ = some (.bool d.tape) ∧ w.cell? ⟨g, j * 5 + 1, none⟩ = some (.int .i64 (d.most : Int)) ∧ w.cell? ⟨g, j * 5 + 2, none⟩ = some (.map (some m)) ∧
      w.cell? ⟨g, j * 5 + 3, none⟩ = some (.int .i64 ((if d.tape then d.has.length else 0 : Nat) : Int)) ∧ w.cell? ⟨g, j * 5 + 4, none⟩ = some (.int .i64 (wc j : Int)) := by
  obtain ⟨ms, h1, h2, h3, h4⟩ := h
  have hj : j < ds.length := (List.getElem?_eq_some_iff.1 hd).1
  have hm : ms[j]? = some ms[j] := List.getElem?_eq_getElem (by omega)
  obtain ⟨h5, h6⟩ := h4 j d _ hd hm
  have hr := devRows_get wc 0 ds ms j d _ hd hm
  rw [Nat.zero_add] at hr
  obtain ⟨A, cap', hv⟩ := h1.shape
  injection hv with hA hn hc
  subst hA hn hc
  have hc := fun (k : Nat) (u : Value) (hk : k < 5) (hu : (devRow d ms[j] (wc j))[k]? = some u) => h1.at_ (k := j * 5 + k) (u := u) (by rw [flat_get _ (devRows_five wc 0 ds ms) j k _ hr hk, hu])
  exact ⟨_, h6, h5, hc 0 _ (by omega) rfl, hc 1 _ (by omega) rfl, hc 2 _ (by omega) rfl, hc 3 _ (by omega) rfl, hc 4 _ (by omega) rfl⟩
end
set_option maxHeartbeats 1000000 in
theorem dev_none {w : World} {F : Nat → Prop} {a : Nat} {p : PM} {wc : Nat → Nat} {D T V W : Value} (h : PlantB w F a p wc D T V W) (i : Int) (hi : i < 0 ∨ (p.devs.length : Int) ≤ i) :
    Calls Tryd.prog 55 #[.pointer (some ⟨a, 0, none⟩), .int .i64 i] w fun e w' => e = .returned (.pointer none) ∧ w = w' := by
  have h2 := h.c2
  obtain ⟨A, cap, rfl⟩ : ∃ A cap, V = .slice A p.devs.length cap := by obtain ⟨ms, h1, _⟩ := h.devs; exact h1.shape
  clear h
  by_cases h0 : i < 0
  · go_enter Tryd.func55, Tryd.ntmps55
    go_wp2
    go_ret
    exact ⟨rfl, rfl⟩
  · have hle : (p.devs.length : Int) ≤ i := by omega
    clear hi
    go_enter Tryd.func55, Tryd.ntmps55
    go_wp2
    go_ret
    exact ⟨rfl, rfl⟩
set_option maxHeartbeats 1000000 in
theorem dev_some {w : World} {F : Nat → Prop} {a : Nat} {p : PM} {wc : Nat → Nat} {D T W : Value} {g cap : Nat} (h : PlantB w F a p wc D T (.slice (some ⟨g, 0, none⟩) p.devs.length cap) W) (j : Nat) (hj : j < p.devs.length) :
    Calls Tryd.prog 55 #[.pointer (some ⟨a, 0, none⟩), .int .i64 (j : Int)] w fun e w' => e = .returned (.pointer (some ⟨g, j * 5, none⟩)) ∧ w = w' := by
  have h2 := h.c2
  clear h
  have hj' : (j : Int) < (p.devs.length : Int) := by omega
  go_enter Tryd.func55, Tryd.ntmps55
  go_wp2
  go_ret
  exact ⟨rfl, rfl⟩
theorem eq_u64 {x y : Nat} (h : x = y) : Ending.returned (.int .i64 (x : Int)) = .returned (.int .i64 (y : Int)) := by rw [h]
set_option maxHeartbeats 1000000 in
/-- How many sectors, or blocks, a device has now. -/
theorem size_any {w : World} {F : Nat → Prop} {ds : List Dev} {wc : Nat → Nat} {g n cap : Nat} (h : DevsAt w F (.slice (some ⟨g, 0, none⟩) n cap) ds wc) {j : Nat} {d : Dev} (hd : ds[j]? = some d) (hl : d.has.length + wc j ≤ 4096) :
    Calls Tryd.prog 56 #[.pointer (some ⟨g, j * 5, none⟩)] w fun e w' => e = .returned (.int .i64 ((if d.tape then d.has.length + wc j else d.most : Nat) : Int)) ∧ ∃ k, w' = w.drewN k := by
  obtain ⟨m, _, _, h0, h1, h2, h3, h4⟩ := h.cells hd
  clear h hd h2
  cases ht : d.tape with
  | false =>
    rw [ht] at h0 h3
    go_enter Tryd.func56, Tryd.ntmps56
    go_wp2
    go_ret
    exact ⟨rfl, 0, rfl⟩
  | true =>
    rw [ht] at h0 h3
    simp only [if_true] at h3
    have hw : IntKind.i64.wrap ((d.has.length : Int) + (wc j : Int)) = (d.has.length : Int) + (wc j : Int) := IntWalk.i64_in _ (by omega)
    go_enter Tryd.func56, Tryd.ntmps56
    go_wp2
    go_quiet (fail)
    go_wp2
    go_ret
    exact ⟨by simp, _, rfl⟩
/-- Only the number of draws has turned. -/
theorem PM.step_off {p : PM} (h : p.step.2 = true) : p.step.1.off = p.off := by
  unfold PM.step at *
  split <;> simp_all
theorem PM.step_same (p : PM) : p.step.1.disks = p.disks ∧ p.step.1.tapes = p.tapes ∧ p.step.1.devs = p.devs ∧ p.step.1.waits = p.waits ∧ p.step.1.now = p.now := by
  unfold PM.step
  split <;> simp
/-- A plant whose power, fuse, steps or clock are others. -/
theorem PlantB.turn {w w' : World} {F : Nat → Prop} {a : Nat} {p q : PM} {wc : Nat → Nat} {D T V W : Value} (h : PlantB w F a p wc D T V W) (hq : q.disks = p.disks ∧ q.tapes = p.tapes ∧ q.devs = p.devs ∧ q.waits = p.waits)
    (hb : Blk w' a 82 (plCells D T V W q).toArray) (hk : ∀ k, k ≠ a → w'.heap[k]? = w.heap[k]?) : PlantB w' F a q wc D T V W := by
  obtain ⟨q1, q2, q3, q4⟩ := hq
  have hne : ∀ (k : Nat) (t : TypeId) (cs : Array Value) (fz : Nat × Nat), t ≠ 82 → w.heap[k]? = some (Obj.cells cs t fz) → w'.heap[k]? = some (Obj.cells cs t fz) := fun k t cs fz ht hh => (hk k (by
    rintro rfl
    have := h.blk
    unfold Blk at this
    rw [hh] at this
    injection this with this
    injection this with _ this
    exact ht this)).trans hh
  refine ⟨hb, h.own, ?_, ?_, ?_, ?_⟩
  · rw [q1]; exact h.disks.heap fun k cs hh => hne k _ cs _ (by decide) hh
  · rw [q2]; exact h.tapes.heap fun k cs hh => hne k _ cs _ (by decide) hh
  · rw [q3]
    refine h.devs.heap (fun k cs hh => hne k _ cs _ (by decide) hh) fun k es c hh => (hk k ?_).trans hh
    rintro rfl
    have := h.blk
    unfold Blk at this
    rw [hh] at this
    cases this
  · unfold WaitsAt; rw [q4]; exact h.waits.heap fun k cs hh => hne k _ cs _ (by decide) hh
theorem heap_set_ne (w : World) (a k j : Nat) (v : Value) (h : k ≠ a) : (w.setCell ⟨a, j, none⟩ v).heap[k]? = w.heap[k]? := Below.heap_setCell w ⟨a, j, none⟩ v k h
theorem mods_set (w w' : World) (a j : Nat) (v : Value) (h : Mods w.heap.size (· = a) w w') : Mods w.heap.size (· = a) w (w'.setCell ⟨a, j, none⟩ v) := h.setCell (p := ⟨a, j, none⟩) (.inl rfl) v
set_option maxHeartbeats 2000000 in
/-- A step; false: the power goes off at it. -/
theorem step_any {w : World} {F : Nat → Prop} {a : Nat} {p : PM} {wc : Nat → Nat} {D T V W : Value} (h : PlantB w F a p wc D T V W) (hs : p.steps < 4611686018427387904) (hf : p.fuseI < 9223372036854775808) :
    Calls Tryd.prog 58 #[.pointer (some ⟨a, 0, none⟩)] w fun e w' => e = .returned (.bool p.step.2) ∧ PlantB w' F a p.step.1 wc D T V W ∧ (∀ k, k ≠ a → w'.heap[k]? = w.heap[k]?) ∧ Mods w.heap.size (· = a) w w' := by
  have h5 := h.c5
  have h6 := h.c6
  have hz4 := h.fz 4
  have hz5 := h.fz 5
  have hz6 := h.fz 6
  have hc4 := h.c4
  have H := Lib.hid h
  clear h
  have hp6 : p.steps + 1 < 9223372036854775808 := by omega
  cases hfu : p.fuse with
  | none =>
    have e5 : p.fuseI = -1 := by simp [PM.fuseI, hfu]
    rw [e5] at h5
    have hst : p.step = ({ p with steps := p.steps + 1 }, true) := by unfold PM.step; rw [hfu]
    go_enter Tryd.func58, Tryd.ntmps58
    go_wp2
    go_ret
    rw [hst]
    refine ⟨rfl, H.out.turn ⟨rfl, rfl, rfl, rfl⟩ ?_ (fun k hk => heap_set_ne _ _ _ _ _ hk), fun k hk => heap_set_ne _ _ _ _ _ hk, mods_set _ _ _ _ _ (Mods.refl _ _ _)⟩
    have hb := (H.out.blk.set_ 6 (.int .i64 ((p.steps : Int) + 1)))
    simpa [plCells, PM.fuseI, hfu] using hb
  | some n =>
    have e5 : p.fuseI = n := by simp [PM.fuseI, hfu]
    rw [e5] at h5 hf
    by_cases hn : n = 0
    · subst hn
      have hst : p.step = ({ p with off := true, fuse := none }, false) := by unfold PM.step; rw [hfu]
      go_enter Tryd.func58, Tryd.ntmps58
      go_wp2
      go_ret
      rw [hst]
      refine ⟨rfl, H.out.turn ⟨rfl, rfl, rfl, rfl⟩ ?_ (fun k hk => (heap_set_ne _ _ _ _ _ hk).trans (heap_set_ne _ _ _ _ _ hk)), fun k hk => (heap_set_ne _ _ _ _ _ hk).trans (heap_set_ne _ _ _ _ _ hk), mods_set _ _ _ _ _ (mods_set _ _ _ _ _ (Mods.refl _ _ _))⟩
      have hb := (H.out.blk.set_ 4 (.bool true)).set_ 5 (.int .i64 (-1))
      simpa [plCells, PM.fuseI] using hb
    · have hst : p.step = ({ p with fuse := some (n - 1), steps := p.steps + 1 }, true) := by
        obtain ⟨m, rfl⟩ : ∃ m, n = m + 1 := ⟨n - 1, by omega⟩
        unfold PM.step
        rw [hfu]
        rfl
      have HST := Lib.hid hst
      have hn0 : (0 : Int) < (n : Int) := by omega
      have hn1 : ((n : Int) == 0) = false := by simpa using hn
      have en : Hid ((n : Int) - 1 = ((n - 1 : Nat) : Int)) := Lib.hid (by omega)
      have hf' : (n : Int) ≤ 9223372036854775807 := by omega
      clear hst hfu hn e5 hf hs
      go_enter Tryd.func58, Tryd.ntmps58
      go_wp2
      go_ret
      rw [HST.out, en.out]
      refine ⟨rfl, H.out.turn ⟨rfl, rfl, rfl, rfl⟩ ?_ (fun k hk => (heap_set_ne _ _ _ _ _ hk).trans (heap_set_ne _ _ _ _ _ hk)), fun k hk => (heap_set_ne _ _ _ _ _ hk).trans (heap_set_ne _ _ _ _ _ hk), mods_set _ _ _ _ _ (mods_set _ _ _ _ _ (Mods.refl _ _ _))⟩
      have hb := (H.out.blk.set_ 5 (.int .i64 ((n - 1 : Nat) : Int))).set_ 6 (.int .i64 ((p.steps : Int) + 1))
      simpa [plCells, PM.fuseI] using hb
end Go.Proofs.YtloffgoenaomkaaDoor.Pl
/- Rows of many cells, kept whole: stores, slice literals of one row, copies. Over any program. No program's function is walked here. -/
namespace Go.Proofs.YtloffgoenaomkaaDoor.Mem
open Go Go.RowKit
theorem setCells_blk {g : Nat} {t : TypeId} : ∀ (vs cs : List Value) (o : Nat) (w : World), Blk w g t cs.toArray → o + vs.length ≤ cs.length →
    Blk (w.setCells g o vs) g t (cs.take o ++ vs ++ cs.drop (o + vs.length)).toArray ∧ w.grownBy (w.setCells g o vs) (some g) ∧ (w.setCells g o vs).heap.size = w.heap.size
  | [], cs, o, w, h, hle => ⟨by simpa [World.setCells] using h, World.grownBy.refl w _, rfl⟩
  | v :: r, cs, o, w, h, hle => by
    simp only [List.length_cons] at hle
    have h1 : Blk (w.setCell ⟨g, o, none⟩ v) g t (cs.set o v).toArray := by
      have := h.set_ o v
      simpa using this
    obtain ⟨k1, k2, k3⟩ := setCells_blk r (cs.set o v) (o + 1) (w.setCell ⟨g, o, none⟩ v) h1 (by simp; omega)
    refine ⟨?_, ?_, ?_⟩
    · rw [World.setCells]
      have e : (cs.set o v).take (o + 1) ++ r ++ (cs.set o v).drop (o + 1 + r.length) = cs.take o ++ v :: r ++ cs.drop (o + (v :: r).length) := by
        have e1 : (cs.set o v).take (o + 1) = cs.take o ++ [v] := by
          rw [List.take_succ_eq_append_getElem (by simp; omega), List.take_set_of_le (Nat.le_refl _)]
          simp
        have e2 : (cs.set o v).drop (o + 1 + r.length) = cs.drop (o + (v :: r).length) := by
          rw [List.drop_set_of_lt (by omega)]
          congr 1
          simp
          omega
        rw [e1, e2]
        simp
      rw [← e]
      exact k1
    · rw [World.setCells]
      exact grown_trans (grownBy_setCell w ⟨g, o, none⟩ v (some g) rfl) k2
    · rw [World.setCells, k3]
      simp [World.setCell]
section
variable {P : Program} {w : World}
/-- A store of a row into the midst of a block that is known whole. -/
theorem wpList_store_in {ops : Array Oper} {rest : List Oper} {op : Oper} {a : Act} {Q : Exit → Act → World → Prop} (hgd : op.guard = none) (ty : TypeId) (x y : Operand) (ho : op.op = .store ty x y)
    (g o : Nat) (te : TypeId) (old new : List Value) (hx : a.eval x = .pointer (some ⟨g, o, none⟩)) (hy : a.eval y = .agg new.toArray) (hb : Blk w g te old.toArray) (hfit : o + new.length ≤ old.length)
    (hi : (P.info? ty).map (·.size) = some new.length) (h1 : ∀ v ∈ new, v.oneCell' = true)
    (h : ∀ w', Blk w' g te (old.take o ++ new ++ old.drop (o + new.length)).toArray → w.grownBy w' (some g) → w'.heap.size = w.heap.size → wpList P ops Q rest (a.put op.dst undef) w') : wpList P ops Q (op :: rest) a w := by
  refine wpList_store_mid hgd ty x y ho g o new.toArray hx hy (fun j hj => ⟨by rw [hb.cell]; simp at hj ⊢; omega, hb.frozen _⟩) (by simpa using hi) (all_oneCell_toArray h1) ?_
  obtain ⟨k1, k2, k3⟩ := setCells_blk new old o w hb hfit
  exact h _ k1 k2 k3
/-- A store of all cells of a block. -/
theorem wpList_store_all {ops : Array Oper} {rest : List Oper} {op : Oper} {a : Act} {Q : Exit → Act → World → Prop} (hgd : op.guard = none) (ty : TypeId) (x y : Operand) (ho : op.op = .store ty x y)
    (g : Nat) (te : TypeId) (old new : List Value) (hx : a.eval x = .pointer (some ⟨g, 0, none⟩)) (hy : a.eval y = .agg new.toArray) (hb : Blk w g te old.toArray) (hlen : new.length = old.length)
    (hi : (P.info? ty).map (·.size) = some new.length) (h1 : ∀ v ∈ new, v.oneCell' = true)
    (h : ∀ w', Blk w' g te new.toArray → w.grownBy w' (some g) → w'.heap.size = w.heap.size → wpList P ops Q rest (a.put op.dst undef) w') : wpList P ops Q (op :: rest) a w :=
  wpList_store_in hgd ty x y ho g 0 te old new hx hy hb (by omega) hi h1 fun w' k1 k2 k3 => h w' (by
    have e : old.take 0 ++ new ++ old.drop (0 + new.length) = new := by rw [Nat.zero_add, List.drop_eq_nil_of_le (by omega)]; simp
    rw [e] at k1
    exact k1) k2 k3
/-- 'copy' of bytes into the midst of a block. -/
theorem wpList_copy_in {ops : Array Oper} {rest : List Oper} {o : Oper} {a : Act} {Q : Exit → Act → World → Prop} (hgd : o.guard = none) (s x : Operand) (t : TypeId)
    (ho : o.op = .call { callee := .builtin .copy, args := #[s, x], argTypes := #[t, t] }) (e : TypeId) (T : ByteTy P t e) (g off dl dc te : Nat) (old : List Value) (hs : a.eval s = .slice (some ⟨g, off, none⟩) dl dc)
    (hg : Blk w g te old.toArray) (B : Option Addr) (m d : Nat) (bs : List UInt8) (hx : a.eval x = .slice B m d) (hb : BAt w B bs) (hm : bs.length = m) (h0 : 0 < m) (hk : m = dl) (hfit : off + m ≤ old.length)
    (h : ∀ w', Blk w' g te (old.take off ++ bs.map B8 ++ old.drop (off + m)).toArray → w.grownBy w' (some g) → w'.heap.size = w.heap.size → wpList P ops Q rest (a.put o.dst (.int .i64 (m : Int))) w') : wpList P ops Q (o :: rest) a w :=
  wpList_plain hgd fun _ hK => by
    obtain ⟨w', hrun, h2, h3, h4⟩ := run_copy_mid (P := P) (w := w) t e o.type T g off dl dc te old hg B m d bs hb hm h0 hk hfit
    unfold Oper.wp execOp
    simp only [ho, resolve, invoke, builtin, Sem.run_bind, Sem.run_pure, Result.andThen_ok, List.map_toArray, List.map_cons, List.map_nil, hs, hx, hrun]
    exact hK _ _ (h w' h2 h3 h4)
theorem fold_sets : ∀ (row : List Value) (k : Nat) (cells : Array Value), k + row.length ≤ cells.size →
    (row.zipIdx k).foldl (fun (cs : Array Value) (x : Value × Nat) => cs.setIfInBounds x.2 x.1) cells = (cells.toList.take k ++ row ++ cells.toList.drop (k + row.length)).toArray
  | [], k, cells, h => by simp
  | v :: r, k, cells, h => by
    simp only [List.length_cons] at h
    rw [List.zipIdx_cons, List.foldl_cons, fold_sets r (k + 1) _ (by simp; omega)]
    congr 1
    rw [Array.toList_setIfInBounds]
    have e1 : (cells.toList.set k v).take (k + 1) = cells.toList.take k ++ [v] := by
      rw [List.take_succ_eq_append_getElem (by simp; omega), List.take_set_of_le (Nat.le_refl _)]
      simp
    have e2 : (cells.toList.set k v).drop (k + 1 + r.length) = cells.toList.drop (k + (v :: r).length) := by
      rw [List.drop_set_of_lt (by omega)]
      congr 1
      simp
      omega
    rw [e1, e2]
    simp
theorem fill_one (row : List Value) (cells : Array Value) (hs : cells.size = row.length) :
    Instr.fill (fun i => some (i * row.length, row.length)) cells [(0, .agg row.toArray)] = some row.toArray := by
  unfold Instr.fill
  simp only [Value.cells, List.size_toArray, Nat.zero_mul, Nat.zero_add]
  rw [if_neg (by simp; omega)]
  unfold Instr.fill
  have := fold_sets row 0 cells (by omega)
  rw [← Array.foldl_toList, Array.toList_zipIdx, this]
  simp [hs]
theorem run_buildSlice_row (w : World) (t e : TypeId) {size bytes : Nat} {z : Value} (T : ElTy P t e size bytes z) (row : List Value) (hl : row.length = size) (hs : size ≤ 16777216) :
    (Instr.buildSlice t 1 #[(0, .agg row.toArray)]).run P w = .ok (.slice (some ⟨w.heap.size, 0, none⟩) 1 1) (w.alloc (.cells row.toArray e)) := by
  obtain ⟨i, hi, hz, hsz, hby⟩ := T.info
  have h0 := T.h0
  refine run_buildSlice w t e 1 _ row.toArray i z T.ht hi hz (by omega) (by omega) ?_
  have := fill_one row ((Array.range (1 * i.size)).map (z.cells[· % z.cells.size]!)) (by simp; omega)
  rw [hl] at this
  rw [hsz]
  rw [hsz] at this
  exact this
/-- A slice literal of one row. -/
theorem wpList_buildSlice_row {ops : Array Oper} {rest : List Oper} {o : Oper} {a : Act} {Q : Exit → Act → World → Prop} (hgd : o.guard = none) (t e : TypeId) (x : Operand) (ho : o.op = .buildSlice t 1 #[(0, x)])
    {size bytes : Nat} {z : Value} (T : ElTy P t e size bytes z) (row : List Value) (hx : a.eval x = .agg row.toArray) (hl : row.length = size) (hs : size ≤ 16777216) (N : Nat) (hN : w.heap.size = N)
    (h : wpList P ops Q rest (a.put o.dst (.slice (some ⟨N, 0, none⟩) 1 1)) (w.alloc (.cells row.toArray e))) : wpList P ops Q (o :: rest) a w :=
  wpList_plain hgd fun _ hK => by
    subst hN
    unfold Oper.wp execOp
    simp only [ho, List.map_toArray, List.map_cons, List.map_nil, hx, Sem.run_bind, run_buildSlice_row w t e T row hl hs, Result.andThen_ok, Sem.run_pure]
    exact hK _ _ h
/-- An exit of a walk at a world that is spelled otherwise. -/
theorem wpList_world {ops : Array Oper} {l : List Oper} {a : Act} {Q : Exit → Act → World → Prop} {w1 : World} (w2 : World) (e : w1 = w2) (h : wpList P ops Q l a w2) : wpList P ops Q l a w1 := e ▸ h
end
end Go.Proofs.YtloffgoenaomkaaDoor.Mem
/- 'give': a write waits, if the step is done. -/
namespace Go.Proofs.YtloffgoenaomkaaDoor.Pl
open Go Go.RowKit Mem
theorem wrTy : ElTy Tryd.prog 80 117 66 80 (.agg (wrRow ⟨0, 0, zeros⟩).toArray) := ⟨Tryd.underlying80, by kernel_rfl, by kernel_rfl, by decide⟩
theorem byteTy : ByteTy Tryd.prog 38 5 := ⟨Tryd.underlying38, Tryd.underlying5, by kernel_rfl⟩
theorem wrRow_len (x : Wr) (h : x.b.length = 64) : (wrRow x).length = 66 := by simp [wrRow, h]
theorem wrRow_one (x : Wr) : ∀ v ∈ wrRow x, v.oneCell' = true := by
  intro v hv
  unfold wrRow at hv
  simp at hv
  rcases hv with rfl | rfl | ⟨b, _, rfl⟩ <;> rfl
theorem PlantB.bytes_ne {w : World} {F : Nat → Prop} {a : Nat} {p : PM} {wc : Nat → Nat} {D T V W : Value} (h : PlantB w F a p wc D T V W) {A : Option Addr} {b : List UInt8} (hb : BAt w A b) {w1 : World} (hk : ∀ k, k ≠ a → w1.heap[k]? = w.heap[k]?) : BAt w1 A b :=
  hb.keep fun ad k v hA hkl hv => by
    have hne : (ad.add k).block ≠ a := by
      intro e
      obtain ⟨ad', hA', hc⟩ := hb (by omega)
      rw [hA] at hA'
      injection hA' with hA'
      subst hA'
      have h1 := hc k hkl
      have h2 := h.blk
      unfold Blk at h2
      unfold World.cell? at h1
      rw [e, h2] at h1
      simp only at h1
      split at h1
      · cases h1
      · generalize (ad.add k).off = o at h1
        obtain ⟨A1, c1, e1⟩ := h.disks.shape
        obtain ⟨A2, c2, e2⟩ := h.tapes.shape
        obtain ⟨A3, c3, e3⟩ : ∃ A c, V = .slice A p.devs.length c := by obtain ⟨ms, h1, _⟩ := h.devs; exact h1.shape
        obtain ⟨A4, c4, e4⟩ := Vec.shape h.waits
        subst e1 e2 e3 e4
        match o, h1 with
        | 0, h1 => simp [plCells] at h1
        | 1, h1 => simp [plCells] at h1
        | 2, h1 => simp [plCells] at h1
        | 3, h1 => simp [plCells] at h1
        | 4, h1 => simp [plCells] at h1
        | 5, h1 => simp [plCells] at h1
        | 6, h1 => simp [plCells] at h1
        | 7, h1 => simp [plCells] at h1
        | o + 8, h1 => simp [plCells] at h1
    unfold World.cell? at hv ⊢
    rw [hk _ hne]
    exact hv
set_option maxRecDepth 100000 in
set_option maxHeartbeats 2000000 in
theorem give_any {w : World} {F : Nat → Prop} {a : Nat} {p : PM} {wc : Nat → Nat} {D T V W : Value} (h : PlantB w F a p wc D T V W) (hs : p.steps < 4611686018427387904) (hf : p.fuseI < 9223372036854775808)
    (i k : Nat) (A : Option Addr) (cap : Nat) (b : List UInt8) (hb : BAt w A b) (hl : b.length = 64) (hwl : p.waits.length ≤ 1000000000) :
    Calls Tryd.prog 57 #[.pointer (some ⟨a, 0, none⟩), .int .i64 (i : Int), .int .i64 (k : Int), .slice A 64 cap] w fun e w' => e = .returned (.int .i64 (p.give i k b).2) ∧ (∃ W', PlantB w' (Grow F w w') a (p.give i k b).1 wc D T V W') ∧ Mods w.heap.size F w w' := by
  have H := Lib.hid h
  have HB := Lib.hid hb
  have HL := Lib.hid hl
  clear h hb hl
  go_enter Tryd.func57, Tryd.ntmps57
  go_wp2_with fail
  refine (step_any H.out hs hf).mono ?_
  rintro e w1 ⟨rfl, h1, hk1, hm1⟩
  have H1 := Lib.hid h1
  have HK1 := Lib.hid hk1
  have HM1 := Lib.hid hm1
  have HB1 := Lib.hid (H.out.bytes_ne HB.out hk1)
  clear h1 hk1 hm1 hs hf
  cases hst : p.step.2 with
  | false =>
    have hg : p.give i k b = (p.step.1, 2) := by unfold PM.give; rw [hst]; rfl
    go_wp2_with fail
    go_ret
    rw [hg]
    exact ⟨rfl, ⟨_, H1.out.mono fun g _ hg => .inl hg⟩, HM1.out.mono (Nat.le_refl _) fun g _ hg => by subst hg; exact H.out.own⟩
  | true =>
    have HG : Hid (p.give i k b = ({ p.step.1 with waits := p.step.1.waits ++ [⟨i, k, b⟩] }, 0)) := Lib.hid (by unfold PM.give; rw [hst]; rfl)
    clear hst
    go_wp2_with
      (refine wpList_store_all rfl 117 (.tmp 9) (.tmp 15) rfl w1.heap.size 117 Tryd.zeroCells117.toList (wrRow ⟨i, k, zeros⟩) rfl (by kernel_rfl) (Blk.new w1 _ _) (by kernel_rfl) (by rw [wrRow_len _ zeros_len]; kernel_rfl) (wrRow_one _) ?_
       intro w2 hb2 hg2 hz2
       have HX2 := Lib.hid hb2
       have HW2 : Hid (Below w1.heap.size w1 w2) := Lib.hid ((below_al' (.cells Tryd.zeroCells117 117)).grown hg2 (by simp) (fun k hk => by injection hk with hk; omega))
       have HB2 := Lib.hid (HB1.out.below HW2.out)
       clear hb2 hg2 hz2
       go_wp2_with
         (refine wpList_copy_in rfl (.tmp 17) (.tmp 18) _ rfl _ byteTy w1.heap.size 2 64 64 117 (wrRow ⟨i, k, zeros⟩) rfl HX2.out A 64 cap b rfl HB2.out HL.out (by omega) rfl (by rw [wrRow_len _ zeros_len]; omega) ?_
          intro w3 hb3 hg3 hz3
          have HX3' := Lib.hid hb3
          have HG3 := Lib.hid hg3
          clear hb3 hg3 hz3))
    have HX3 : Hid (Blk w3 w1.heap.size 117 (wrRow ⟨i, k, b⟩).toArray) := Lib.hid (by
      have e : (wrRow ⟨i, k, zeros⟩).take 2 ++ b.map B8 ++ (wrRow ⟨i, k, zeros⟩).drop (2 + 64) = wrRow ⟨i, k, b⟩ := by
        rw [List.drop_eq_nil_of_le (by rw [wrRow_len _ zeros_len]; omega)]
        simp [wrRow]
      have := HX3'.out
      rw [e] at this
      exact this)
    have HW3 : Hid (Below w1.heap.size w1 w3) := Lib.hid (HW2.out.grown HG3.out HW2.out.size (fun k hk => by injection hk with hk; omega))
    have HP3 := Lib.hid (H1.out.mods (Mods.of_below (F := fun _ => False) HW3.out) fun g hg _ => ⟨hg, fun x => x⟩)
    have h3 := HP3.out.c3
    have z3 := HP3.out.fz 3
    clear HX2 HW2 HB2 HX3' HG3 HB1
    refine Ord.region_ord [] [0, 1, 2, 3, 4, 5, 6, 7, 8, 9, 10] (by kernel_rfl) (by kernel_rfl) (by kernel_rfl) (by kernel_rfl) (Ord.ord_all [_, _, _, _, _, _, _, _, _, _, _] rfl (by kernel_rfl) ?_)
    go_wp2_with
      (refine wpList_load_mid rfl 117 (.tmp 9) rfl w1.heap.size 0 rfl (wrRow ⟨i, k, b⟩) _ (fun j v hv => by rw [Nat.zero_add]; exact (HX3.out.cell j).trans (by simpa using hv)) Tryd.underlying117 rfl (by rw [wrRow_len _ HL.out]; kernel_rfl) ?_
       refine wpList_buildSlice_row rfl 80 117 (.tmp 25) rfl wrTy (wrRow ⟨i, k, b⟩) rfl (wrRow_len _ HL.out) (by omega) w3.heap.size rfl ?_
       go_wp2_with
         (refine wpList_append_vec rfl (.tmp 24) (.tmp 26) _ rfl 80 _ wrTy rfl (Vec.alloc (Vec.drew HP3.out.waits) _) ⟨w3.heap.size, 0, none⟩ 1 1 (wrRow ⟨i, k, b⟩) rfl (by rw [wrRow_len _ HL.out]) (blk_news (Blk.new w3.drew _ _)) (wrRow_one _) ?c1 ?c2 ?_
          case c1 => unfold maxLen; rw [(PM.step_same p).2.2.2.1]; omega
          case c2 => rw [(PM.step_same p).2.2.2.1]; omega
          intro W4 w4 row hv4 hg4 hr4
          obtain ⟨A4, c4, rfl⟩ := hv4.shape
          have hba := ((HP3.out.blk.drew).alloc (.cells (wrRow ⟨i, k, b⟩).toArray 117)).grown hg4 (by
            rcases hr4 with rfl | ⟨g, cs, rfl, _, hh⟩
            · simp
            · intro e
              injection e with e
              subst e
              have hx := (HP3.out.blk.drew).alloc (.cells (wrRow ⟨i, k, b⟩).toArray 117)
              unfold Blk at hx
              rw [hx] at hh
              injection hh with hh
              injection hh with _ hh
              exact absurd hh (by decide))
          have h4 := (hba.cell 3).trans (show _ = some W from rfl)
          have z4 := hba.frozen 3
          have HA4 := Lib.hid hba
          have HV4 := Lib.hid hv4
          have HG4 := Lib.hid hg4
          have HR4 := Lib.hid hr4
          clear hv4 hg4 hr4 hba h3 z3))
    refine Ord.nx_end ?_
    go_wp2_with fail
    go_ret
    rw [HG.out]
    have hrow : ∀ g, row = some g → ∃ cs, w3.heap[g]? = some (Obj.cells cs 117 (0, 0)) ∨ w3.heap.size ≤ g := fun g hg => by
      rcases HR4.out with h | ⟨g', cs, h, _, hh⟩
      · rw [h] at hg
        cases hg
      · rw [h] at hg
        injection hg with hg
        subst hg
        refine ⟨cs, ?_⟩
        rcases Nat.lt_or_ge g' w3.heap.size with h' | h'
        · left
          rw [← hh]
          exact (Below.heap_alloc w3.drew _ g' h').symm
        · exact .inr h'
    have hsz4 : (w3.drew.alloc (.cells (wrRow ⟨i, k, b⟩).toArray 117)).heap.size = w3.heap.size + 1 := by
      show (w3.alloc (.cells (wrRow ⟨i, k, b⟩).toArray 117)).heap.size = _
      simp
    have hk : ∀ (g : Nat) (o : Obj), w3.heap[g]? = some o → g ≠ a → (∀ cs, o ≠ .cells cs 117 (0, 0)) →
        (w4.setCell ⟨a, 3, none⟩ (.slice A4 (p.step.1.waits.length + 1) c4)).heap[g]? = some o := fun g o ho hga hno => by
      have hlt := (Array.getElem?_eq_some_iff.1 ho).1
      rw [heap_set_ne _ _ _ _ _ hga, HG4.out.block g (by rw [hsz4]; omega) (fun e => by
        obtain ⟨cs, h | h⟩ := hrow g e.symm
        · rw [ho] at h
          injection h with h
          exact hno cs h
        · omega)]
      exact (Below.heap_alloc w3.drew _ g hlt).trans ho
    have hpa : ∀ (g : Nat) (t : TypeId) (cs : Array Value), t ≠ 82 → w3.heap[g]? = some (Obj.cells cs t (0, 0)) → g ≠ a := fun g t cs ht hg e => by
      subst e
      have := HP3.out.blk
      unfold Blk at this
      rw [hg] at this
      injection this with this
      injection this with _ this
      exact ht this
    have hty : ∀ (g : Nat) (t : TypeId) (cs : Array Value), t ≠ 82 → t ≠ 117 → w3.heap[g]? = some (Obj.cells cs t (0, 0)) →
        (w4.setCell ⟨a, 3, none⟩ (.slice A4 (p.step.1.waits.length + 1) c4)).heap[g]? = some (Obj.cells cs t (0, 0)) := fun g t cs h1 h2 hg => hk g _ hg (hpa g t cs h1 hg) fun cs' e => by
      injection e with _ e
      exact h2 e
    have hsz : w.heap.size ≤ w3.heap.size := Nat.le_trans HM1.out.size HW3.out.size
    have hmono : ∀ g, F g → Grow F w (w4.setCell ⟨a, 3, none⟩ (.slice A4 (p.step.1.waits.length + 1) c4)) g := fun g hg => .inl hg
    refine ⟨rfl, ⟨.slice A4 (p.step.1.waits.length + 1) c4, ?_, .inl H.out.own, ?_, ?_, ?_, ?_⟩, ?_⟩
    · have hb := HA4.out.set_ 3 (.slice A4 (p.step.1.waits.length + 1) c4)
      simpa [plCells, PM.fuseI] using hb
    · exact (HP3.out.disks.heap fun g cs hg => hty g _ cs (by decide) (by decide) hg).mono fun g _ hg => hmono g hg
    · exact (HP3.out.tapes.heap fun g cs hg => hty g _ cs (by decide) (by decide) hg).mono fun g _ hg => hmono g hg
    · refine (HP3.out.devs.heap (fun g cs hg => hty g _ cs (by decide) (by decide) hg) fun g es c hg => hk g _ hg (fun e => ?_) (fun cs e => by cases e)).mono fun g _ hg => hmono g hg
      subst e
      have := HP3.out.blk
      unfold Blk at this
      rw [hg] at this
      cases this
    · have hv := (HV4.out.far (p := ⟨a, 3, none⟩) HA4.out (by decide) (.slice A4 (p.step.1.waits.length + 1) c4)).mono (G := Grow F w (w4.setCell ⟨a, 3, none⟩ (.slice A4 (p.step.1.waits.length + 1) c4))) fun g hgl hg => by
        rcases hg with hg | ⟨h1, h2⟩
        · exact .inl hg
        · refine .inr ⟨?_, hgl⟩
          rw [hsz4] at h1
          omega
      unfold WaitsAt
      simpa using hv
    · refine ((((HM1.out.mono (Nat.le_refl _) fun g _ hg => by subst hg; exact H.out.own).then_below HW3.out HM1.out.size).drew.alloc hsz _).grown HG4.out (by rw [hsz4]; omega) ?_).setCell (.inl H.out.own) _
      intro g hg
      rcases HR4.out with h | ⟨g', cs, h, hf, hh⟩
      · rw [h] at hg
        cases hg
      · rw [h] at hg
        injection hg with hg
        subst hg
        exact .inl hf
end Go.Proofs.YtloffgoenaomkaaDoor.Pl
/- 'Len', 'Write', 'Append' of a plant, and what is asked of it. -/
namespace Go.Proofs.YtloffgoenaomkaaDoor.Pl
open Go Go.RowKit Mem
/-- What a plant's numbers keep to while a law runs. -/
structure PM.Low (p : PM) : Prop where
  steps : p.steps < 4611686018427387904
  waits : p.waits.length ≤ 1000000000
theorem PlantAt.same {w : World} {F : Nat → Prop} {a : Nat} {p : PM} (h : PlantAt w F a p) : PlantAt w (Grow F w w) a p ∧ Mods w.heap.size F w w := ⟨h.mono fun _g _ hg => .inl hg, Mods.refl _ _ _⟩
theorem PlantAt.same_drew {w : World} {F : Nat → Prop} {a : Nat} {p : PM} (h : PlantAt w F a p) (n : Nat) : PlantAt (w.drewN n) (Grow F w (w.drewN n)) a p ∧ Mods w.heap.size F w (w.drewN n) :=
  ⟨(h.mods (w' := w.drewN n) ((Mods.refl w.heap.size (fun _ => False) w).drewN n) (fun _g hg _ => ⟨hg, fun x => x⟩)).mono fun _g _ hg => .inl hg, (Mods.refl _ _ _).drewN n⟩
theorem num_cases (p : PM) (i : Int) : (p.num i = none ∧ (i < 0 ∨ (p.devs.length : Int) ≤ i)) ∨ ∃ (j : Nat) (d : Dev), i = (j : Int) ∧ p.num j = some j ∧ j < p.devs.length ∧ p.devs[j]? = some d := by
  cases h : p.num i with
  | none => exact .inl ⟨rfl, PM.num_none h⟩
  | some j =>
    obtain ⟨rfl, hj⟩ := PM.num_some h
    exact .inr ⟨j, p.devs[j], rfl, PM.num_nat hj, hj, List.getElem?_eq_getElem hj⟩
theorem PM.Ok.wc_le {p : PM} (h : p.Ok) {j : Nat} {d : Dev} (hd : p.devs[j]? = some d) (_hl : p.waits.length ≤ 1000000000) : d.has.length + wcOf p j ≤ 4096 ∧ (if d.tape then d.has.length + wcOf p j else d.most) = d.size p.waits j := by
  have hm := (h.most j d hd).2.2
  cases ht : d.tape with
  | true =>
    have e : wcOf p j = cnt p.waits j := by unfold wcOf; rw [hd]; simp [ht]
    have := h.room j d hd ht
    unfold Dev.size
    rw [e]
    exact ⟨by omega, by simp [ht]⟩
  | false =>
    have e : wcOf p j = 0 := by unfold wcOf; rw [hd]; simp [ht]
    have := h.disk j d hd ht
    unfold Dev.size
    rw [e]
    exact ⟨by omega, by simp [ht]⟩
set_option maxHeartbeats 1000000 in
theorem len_any {w : World} {F : Nat → Prop} {a : Nat} {p : PM} (h : PlantAt w F a p) (hok : p.Ok) (hlow : p.Low) (i : Int) :
    Calls Tryd.prog 27 #[.pointer (some ⟨a, 0, none⟩), .int .i64 i] w fun e w' => e = .returned (.tuple #[.int .i64 (p.len i).1, .int .i64 (p.len i).2]) ∧ ∃ k, w' = w.drewN k := by
  obtain ⟨D, T, V, W, hb⟩ := h
  rcases num_cases p i with ⟨hn, hi⟩ | ⟨j, d, rfl, hn, hj, hd⟩
  · have e : p.len i = (0, 31) := by unfold PM.len; rw [hn]
    rw [e]
    go_enter Tryd.func27, Tryd.ntmps27
    go_wp2_with fail
    refine (dev_none hb i hi).mono ?_
    rintro e w1 ⟨rfl, rfl⟩
    go_wp2_with fail
    go_ret2
    exact ⟨rfl, 0, rfl⟩
  · obtain ⟨g, cap, rfl⟩ := hb.devs.form (by omega)
    have e : p.len j = (((d.size p.waits j : Nat) : Int), 0) := by unfold PM.len; rw [hn]; simp [hd]
    rw [e]
    have hw := hok.wc_le hd hlow.waits
    have HB := Lib.hid hb
    have HD := Lib.hid hd
    have HW := Lib.hid hw
    clear hb hn hd hw e
    go_enter Tryd.func27, Tryd.ntmps27
    go_wp2_with fail
    refine (dev_some HB.out j hj).mono ?_
    rintro e w1 ⟨rfl, rfl⟩
    go_wp2_with fail
    refine (size_any HB.out.devs HD.out HW.out.1).mono ?_
    rw [HW.out.2]
    rintro e w1 ⟨rfl, k, rfl⟩
    go_wp2_with fail
    go_ret2
    exact ⟨rfl, k, rfl⟩
end Go.Proofs.YtloffgoenaomkaaDoor.Pl
