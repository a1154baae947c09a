/- A region whose order is drawn, walked in ONE order: operations that only look, and those that only make new memory, may change places. Over any program. No program's function is walked here. -/
import Derived.Test.YtomncfiklkhfjaaOrdSem
namespace Go.Proofs.Ytomncfiklkhfjaa.Ord
open Go Go.RowKit
/-- What an operation is to the others of its region. -/
inductive Kind where
  | blind
  | looks
  | grows
  | other
def fieldSized (P : Program) (s : TypeId) (f : Nat) : Bool := match P.underlying s with
  | some (.struct fields) => match fields[f]? with
    | some x => match P.info? x.type with
      | some i => i.size != 0
      | none => true
    | none => true
  | _ => true
def kindOf (P : Program) (o : Oper) : Kind := match o.op with
  | .move _ => .blind
  | .assign _ => .blind
  | .pick _ _ _ => .blind
  | .nilCheck _ => .blind
  | .indexAddr _ _ _ => .blind
  | .slice _ _ _ _ _ => .blind
  | .build _ _ => .blind
  | .extract _ _ => .blind
  | .makeFunc _ _ _ => .blind
  | .fieldAddr s _ f => if fieldSized P s f then .blind else .other
  | .load _ _ => .looks
  | .call c => match c.callee with
    | .builtin .len => .looks
    | _ => .other
  | .alloc _ => .grows
  | .box _ _ => .grows
  | .buildSlice _ _ _ => .grows
  | .makeSlice _ _ _ => .grows
  | .makeMap _ _ => .grows
  | _ => .other
section
variable {P : Program}
theorem blind_next {m : Sem Value} (h : Blind P m) {w : World} {n : Next} {w1 : World} (hr : (m >>= fun v => (pure (.value v) : Sem Next)).run P w = .ok n w1) :
    (∃ v, n = .value v) ∧ w1 = w ∧ ∀ w', (m >>= fun v => (pure (.value v) : Sem Next)).run P w' = .ok n w' := by
  have hb := (h.bind_ (f := fun v => (pure (.value v) : Sem Next)) fun _ => Blind.pure_ _) w n w1 hr
  refine ⟨?_, hb⟩
  rw [Sem.run_bind] at hr
  obtain ⟨u, w2, _, h2⟩ := andThen_ok hr
  rw [Sem.run_pure] at h2
  cases h2
  exact ⟨_, rfl⟩
theorem looks_next {m : Sem Value} (h : Looks P m) {w : World} {n : Next} {w1 : World} (hr : (m >>= fun v => (pure (.value v) : Sem Next)).run P w = .ok n w1) :
    (∃ v, n = .value v) ∧ w1 = w ∧ ∀ w', Below w.heap.size w w' → (m >>= fun v => (pure (.value v) : Sem Next)).run P w' = .ok n w' := by
  have hb := (h.bind_ (f := fun v => (pure (.value v) : Sem Next)) fun _ => (Blind.pure_ _).looks) w n w1 hr
  refine ⟨?_, hb⟩
  rw [Sem.run_bind] at hr
  obtain ⟨u, w2, _, h2⟩ := andThen_ok hr
  rw [Sem.run_pure] at h2
  cases h2
  exact ⟨_, rfl⟩
theorem grows_next {m : Sem Value} (h : Grows P m) {w : World} {n : Next} {w1 : World} (hr : (m >>= fun v => (pure (.value v) : Sem Next)).run P w = .ok n w1) :
    (∃ v, n = .value v) ∧ Below w.heap.size w w1 := by
  have hb := (h.bind_ (f := fun v => (pure (.value v) : Sem Next)) fun _ => (Blind.pure_ _).grows) w n w1 hr
  refine ⟨?_, hb⟩
  rw [Sem.run_bind] at hr
  obtain ⟨u, w2, _, h2⟩ := andThen_ok hr
  rw [Sem.run_pure] at h2
  cases h2
  exact ⟨_, rfl⟩
theorem blind_fieldPlace {fl : Field} (hz : ∀ i, P.info? fl.type = some i → i.size ≠ 0) (a : Addr) : Blind P (fieldPlace a fl) := by
  unfold fieldPlace
  intro w v w1 hr
  rw [Sem.run_bind] at hr
  obtain ⟨z, w2, h3, h4⟩ := andThen_ok hr
  obtain ⟨rfl, h3'⟩ := blind_sizeOf fl.type _ _ _ h3
  have hz : z ≠ 0 := by
    simp only [sizeOf, typeInfo, Sem.run_bind, program, Sem.run, Result.andThen_ok] at h3
    cases hi : P.info? fl.type with
    | none => rw [hi] at h3; simp [stuck, Sem.run] at h3
    | some i =>
      rw [hi] at h3
      simp only [Sem.run_pure, Result.andThen_ok] at h3
      injection h3 with h3
      subst h3
      exact hz i hi
  rw [if_neg hz] at h4
  rw [Sem.run_pure] at h4
  cases h4
  exact ⟨rfl, fun w' => by rw [Sem.run_bind, h3' w', Result.andThen_ok, if_neg hz, Sem.run_pure]⟩
theorem run_underlying_some {t : TypeId} {d : TypeDesc} (h : P.underlying t = some d) (w : World) : (underlying t).run P w = .ok d w := by
  simp [underlying, program, Sem.run, h]
theorem blind_fieldAt {s : TypeId} {f : Nat} (h : fieldSized P s f = true) (x : Value) : Blind P (Instr.fieldAt s x f) := by
  unfold Instr.fieldAt
  cases hu : P.underlying s with
  | none =>
    refine Dead.blind fun w v w1 hr => ?_
    rw [Sem.run_bind] at hr
    obtain ⟨d, w2, h1, _⟩ := andThen_ok hr
    simp [underlying, program, Sem.run, hu, stuck] at h1
  | some d =>
    intro w v w1 hr
    simp only [Sem.run_bind, run_underlying_some hu, Result.andThen_ok] at hr ⊢
    cases d with
    | struct fields =>
      simp only at hr ⊢
      cases hf : fields[f]? with
      | none => rw [hf] at hr; simp [stuck, Sem.run] at hr
      | some fl =>
        rw [hf] at hr
        simp only at hr ⊢
        have hz : ∀ i, P.info? fl.type = some i → i.size ≠ 0 := fun i hi => by
          simp only [fieldSized, hu, hf, hi] at h
          simpa using h
        exact ((blind_sureAddr x).bind_ fun a => (blind_fieldPlace hz a).bind_ fun p => Blind.pure_ (Value.pointer (some p))) _ _ _ hr
    | _ => simp [stuck, Sem.run] at hr
/-- Whatever comes is a value. -/
def Vals (P : Program) (m : Sem Next) : Prop := ∀ w n w1, m.run P w = .ok n w1 → ∃ v, n = .value v
theorem Vals.bind_ {α : Type} {m : Sem α} {f : α → Sem Next} (hf : ∀ a, Vals P (f a)) : Vals P (m >>= f) := fun w n w1 hr => by
  rw [Sem.run_bind] at hr
  obtain ⟨u, w2, h1, h2⟩ := andThen_ok hr
  exact hf u _ _ _ h2
theorem Vals.pure_ (v : Value) : Vals P (Pure.pure (.value v) : Sem Next) := fun w n w1 hr => by
  rw [Sem.run_pure] at hr
  cases hr
  exact ⟨v, rfl⟩
theorem Dead.vals {m : Sem Next} (h : Dead P m) : Vals P m := fun w n w1 hr => absurd hr (h w n w1)
theorem blind_spec {o : Oper} (h : kindOf P o = .blind) {ρ : Operand → Value} {w : World} {n : Next} {w1 : World} (hr : (execOp ρ o).run P w = .ok n w1) :
    (∃ v, n = .value v) ∧ w1 = w ∧ ∀ w', (execOp ρ o).run P w' = .ok n w' := by
  obtain ⟨dst, op, ty, pos, af, gd⟩ := o
  cases op <;> simp only [kindOf] at h <;> (try (cases h; done))
  case fieldAddr =>
    split at h
    · rename_i hs; exact blind_next (blind_fieldAt hs _) hr
    · cases h
  case call c =>
    exfalso
    revert h
    repeat' (first | (split) | (intro h; cases h; done))
  case move x => exact blind_next (Blind.pure_ (ρ x)) hr
  case assign x => exact blind_next (Blind.pure_ (ρ x)) hr
  case pick c a b =>
    have hv : Vals P (execOp ρ ⟨dst, .pick c a b, ty, pos, af, gd⟩) := by
      simp only [execOp]
      exact Vals.bind_ fun _ => Vals.pure_ _
    have hb : Blind P (execOp ρ ⟨dst, .pick c a b, ty, pos, af, gd⟩) := by
      simp only [execOp]
      exact (blind_asBool _).bind_ fun _ => Blind.pure_ _
    exact ⟨hv _ _ _ hr, hb _ _ _ hr⟩
  case indexAddr => exact blind_next (blind_indexAt _ _ _) hr
  case slice => exact blind_next (blind_sliceAt _ _ _ _ _) hr
  case build => exact blind_next (blind_build _ _) hr
  case extract => exact blind_next (blind_extract _ _) hr
  case makeFunc => exact blind_next (Blind.pure_ _) hr
  case nilCheck x =>
    have hv : Vals P (execOp ρ ⟨dst, .nilCheck x, ty, pos, af, gd⟩) := by
      simp only [execOp]
      repeat'
        (first
          | exact Vals.pure_ _
          | exact (dead_unsupported _).vals
          | exact (dead_runtimePanic _).vals
          | refine Vals.bind_ fun _ => ?_
          | split
          | dsimp only)
    have hb : Blind P (execOp ρ ⟨dst, .nilCheck x, ty, pos, af, gd⟩) := by
      simp only [execOp]
      repeat'
        (first
          | exact Blind.pure_ _
          | exact (dead_unsupported _).blind
          | exact (dead_runtimePanic _).blind
          | exact blind_program
          | exact blind_nilAhead _ _ _ _
          | refine Blind.bind_ ?_ fun _ => ?_
          | split
          | dsimp only)
    exact ⟨hv _ _ _ hr, hb _ _ _ hr⟩
theorem looks_spec {o : Oper} (h : kindOf P o = .looks) {ρ : Operand → Value} {w : World} {n : Next} {w1 : World} (hr : (execOp ρ o).run P w = .ok n w1) :
    (∃ v, n = .value v) ∧ w1 = w ∧ ∀ w', Below w.heap.size w w' → (execOp ρ o).run P w' = .ok n w' := by
  obtain ⟨dst, op, ty, pos, af, gd⟩ := o
  cases op <;> simp only [kindOf] at h <;> (try (cases h; done))
  case fieldAddr =>
    split at h <;> cases h
  case load => exact looks_next (looks_loadAt _ _) hr
  case call c =>
    obtain ⟨cal, args, tys⟩ := c
    cases cal <;> simp only at h <;> (try (cases h; done))
    case builtin b =>
      cases b <;> simp only at h <;> (try (cases h; done))
      simp only [execOp, resolve, Sem.run_bind, Sem.run_pure, Result.andThen_ok, invoke, builtin] at hr ⊢
      have hb := looks_next (P := P) (w := w) (n := n) (w1 := w1) (looks_len tys ty (args.map ρ)) (by rw [Sem.run_bind]; exact hr)
      exact ⟨hb.1, hb.2.1, fun w' hw => by have := hb.2.2 w' hw; rw [Sem.run_bind] at this; exact this⟩
theorem grows_spec {o : Oper} (h : kindOf P o = .grows) {ρ : Operand → Value} {w : World} {n : Next} {w1 : World} (hr : (execOp ρ o).run P w = .ok n w1) :
    (∃ v, n = .value v) ∧ Below w.heap.size w w1 := by
  obtain ⟨dst, op, ty, pos, af, gd⟩ := o
  cases op <;> simp only [kindOf] at h <;> (try (cases h; done))
  case fieldAddr =>
    split at h <;> cases h
  case call c =>
    exfalso
    revert h
    repeat' (first | (split) | (intro h; cases h; done))
  case alloc => exact grows_next (grows_alloc _ _) hr
  case box => exact grows_next (grows_box _ _) hr
  case buildSlice => exact grows_next (grows_buildSlice _ _ _) hr
  case makeSlice => exact grows_next (grows_makeSlice _ _ _) hr
  case makeMap => exact grows_next (grows_makeMap _ _) hr
end
section
variable {P : Program} {ops : Array Oper} {Q : Exit → Act → World → Prop} {md : Region.Mode} {L M : List Nat}
/-- Does operation i leave all that was there as it was? -/
def keepsB (P : Program) (ops : Array Oper) (L : List Nat) (i : Nat) : Bool := match ops[i]? with
  | none => true
  | some o => match kindOf P o with
    | .other => L.contains i
    | _ => true
/-- Any order; behind an operation that keeps what was there, that is so. -/
def wpB (P : Program) (md : Region.Mode) (ops : Array Oper) (Q : Exit → Act → World → Prop) (L : List Nat) : Nat → Array Bool → Act → World → Prop
  | 0, listed, a, w => Region.ready md ops listed = [] ∧ Q .normal a w
  | k + 1, listed, a, w => (Region.ready md ops listed = [] → Q .normal a w) ∧
      ∀ i ∈ Region.ready md ops listed, wpOp P ops Q i (fun a' w' => (keepsB P ops L i = true → Below w.heap.size w w') ∧ wpB P md ops Q L k (listed.setIfInBounds i true) a' w') a w
theorem wpAny_of_wpB : ∀ (k : Nat) (listed : Array Bool) (a : Act) (w : World), wpB P md ops Q L k listed a w → wpAny P md ops Q k listed a w
  | 0, _, _, _, h => h
  | k + 1, _, _, _, h => ⟨h.1, fun i hi => wpOp_mono (fun a' w' x => wpAny_of_wpB k _ a' w' x.2) (h.2 i hi)⟩
/-- Whatever has come up, all that it waits for has come up. -/
structure Closed (md : Region.Mode) (ops : Array Oper) (listed : Array Bool) : Prop where
  size : listed.size = ops.size
  back : ∀ j oj, ops[j]? = some oj → listed.getD j false = true → ∀ e ∈ oj.after, Region.binds md e = true → listed.getD e.on false = true
theorem Closed.start : Closed md ops (Array.replicate ops.size false) := ⟨by simp, fun j oj _ hl => by
  exfalso
  by_cases h : j < ops.size <;> simp [h] at hl⟩
theorem Closed.set {i : Nat} {listed : Array Bool} (h : Closed md ops listed) (hi : i ∈ Region.ready md ops listed) : Closed md ops (listed.setIfInBounds i true) := by
  obtain ⟨_, oi, hoi, hall⟩ := mem_ready.1 hi
  refine ⟨by simp [h.size], fun j oj hj hl e he hb => ?_⟩
  by_cases hij : i = j
  · subst hij
    have : oj = oi := Option.some.inj (hj.symm.trans hoi)
    subst this
    exact getD_set_true (hall e he hb)
  · rw [getD_set_ne false hij] at hl
    exact getD_set_true (h.back j oj hj hl e he hb)
/-- Does j wait for i, perhaps by way of others? -/
def waitsT (md : Region.Mode) (ops : Array Oper) : Nat → Nat → Nat → Bool
  | 0, _, _ => false
  | f + 1, j, i => match ops[j]? with
    | none => false
    | some o => o.after.any fun e => Region.binds md e && (e.on == i || waitsT md ops f e.on i)
theorem listed_of_waits {listed : Array Bool} (hc : Closed md ops listed) {i : Nat} : ∀ (f j : Nat), waitsT md ops f j i = true → listed.getD j false = true → listed.getD i false = true
  | 0, j, h, _ => by cases h
  | f + 1, j, h, hl => by
    unfold waitsT at h
    split at h
    · cases h
    · rename_i o ho
      obtain ⟨e, he, hb⟩ := Array.any_eq_true'.1 h
      simp only [Bool.and_eq_true, Bool.or_eq_true, beq_iff_eq] at hb
      have h1 := hc.back j o ho hl e he hb.1
      rcases hb.2 with h2 | h2
      · rw [← h2]; exact h1
      · exact listed_of_waits hc f e.on h2 h1
theorem waits_not_ready {listed : Array Bool} (hc : Closed md ops listed) {i j f : Nat} (h : waitsT md ops f j i = true) (hj : j ∈ Region.ready md ops listed) : listed.getD i false = true := by
  obtain ⟨_, o', ho', hall⟩ := mem_ready.1 hj
  cases f with
  | zero => cases h
  | succ f =>
    unfold waitsT at h
    rw [ho'] at h
    obtain ⟨e, he, hb⟩ := Array.any_eq_true'.1 h
    simp only [Bool.and_eq_true, Bool.or_eq_true, beq_iff_eq] at hb
    have h1 := hall e he hb.1
    rcases hb.2 with h2 | h2
    · rw [← h2]; exact h1
    · exact listed_of_waits hc f e.on h2 h1
theorem unlisted {listed : Array Bool} {i : Nat} (h : listed.getD i true = false) : listed.getD i false = false := by
  rcases Nat.lt_or_ge i listed.size with h' | h'
  · simp [h'] at h ⊢; exact h
  · simp [Array.getElem?_eq_none h'] at h
theorem wpB_first {i : Nat} {oi : Oper} {v : Value} (U : World → Prop) (hU : ∀ w w', U w → Below w.heap.size w w' → U w') (hi : ops[i]? = some oi) (hsel : ∀ (j : Nat) (o : Oper) cs b, ops[j]? = some o → o.op ≠ .select cs b)
    (hQ : ∀ c a w, Q (.panic c) (a.put oi.dst v) w → Q (.panic c) a w) :
    ∀ (k : Nat) (listed : Array Bool) (a : Act) (w : World), Closed md ops listed →
      (∀ j oj, ops[j]? = some oj → j ≠ i → listed.getD j true = false → (∀ e ∈ oj.after, Region.binds md e = true → e.on ≠ i) → oi.apart ops oj = true) →
      ((∀ w, U w) ∨ ∀ j, listed.getD j true = false → j ≠ i → keepsB P ops L j = false → ∃ f, waitsT md ops f j i = true) →
      i ∈ Region.ready md ops listed → YieldsIf P ops U oi v a → U w →
      wpB P md ops Q L k (listed.setIfInBounds i true) (a.put oi.dst v) w → wpB P md ops Q L (k + 1) listed a w := by
  intro k
  induction k with
  | zero =>
    intro listed a w hcl _ _ hr hy hu H
    refine ⟨fun h => absurd hr (by rw [h]; simp), fun j hj => ?_⟩
    by_cases hji : j = i
    · subst hji
      exact hy.wpOp hi hu ⟨fun _ => Below.refl _ _, H⟩
    · exact absurd (ready_mono hj hji) (by rw [H.1]; simp)
  | succ k ih =>
    intro listed a w hcl hfree hB hr hy hu H
    refine ⟨fun h => absurd hr (by rw [h]; simp), fun j hj => ?_⟩
    by_cases hji : j = i
    · subst hji
      exact hy.wpOp hi hu ⟨fun _ => Below.refl _ _, H⟩
    · obtain ⟨hun, oj, hoj, hall⟩ := mem_ready.1 hj
      have hi0 := (mem_ready.1 hr).1
      have hi1 := unlisted hi0
      have hno : ∀ e ∈ oj.after, Region.binds md e = true → e.on ≠ i := fun e he hb heq => by
        have h1 := hall e he hb
        rw [heq, hi1] at h1
        cases h1
      have hkeep : (∀ w, U w) ∨ keepsB P ops L j = true := by
        rcases hB with h | h
        · exact .inl h
        · cases hk : keepsB P ops L j with
          | true => exact .inr rfl
          | false =>
            obtain ⟨f, hf⟩ := h j hun hji hk
            have := waits_not_ready hcl hf hj
            rw [hi1] at this
            cases this
      refine wpOp_mono (fun a' w' x => ?_) (wpOp_putIf hoj (hfree j oj hoj hji hun hno) (fun cs b => hsel i oi cs b hi) (fun cs b => hsel j oj cs b hoj) hQ hy (H.2 j (ready_mono hj hji)))
      have hu' : U w' := by
        rcases hkeep with h | h
        · exact h w'
        · exact hU w w' hu (x.2.1 h)
      refine ⟨x.2.1, ih (listed.setIfInBounds j true) a' w' (hcl.set hj) (fun m om hm hmi hmu hmo => ?_) ?_ (ready_mono hr (Ne.symm hji)) x.1 hu' ?_⟩
      · refine hfree m om hm hmi ?_ hmo
        by_cases hjm : j = m
        · subst hjm; exact hun
        · rw [getD_set_ne true hjm] at hmu; exact hmu
      · rcases hB with h | h
        · exact .inl h
        · refine .inr fun m hm hmi hk => h m ?_ hmi hk
          by_cases hjm : j = m
          · subst hjm; exact hun
          · rw [getD_set_ne true hjm] at hm; exact hm
      · rw [Array.setIfInBounds_comm _ _ hji]
        exact x.2.2
/-- The one order: behind each operation of L all that was there is to be as it was; each of M is to yield what it yields in whatever world. -/
def wpOrd (P : Program) (ops : Array Oper) (Q : Exit → Act → World → Prop) (L M : List Nat) : List Nat → Act → World → Prop
  | [], a, w => Q .normal a w
  | i :: r, a, w => if M.contains i = true then ∃ o v, ops[i]? = some o ∧ YieldsIf P ops (fun _ => True) o v a ∧ wpOrd P ops Q L M r (a.put o.dst v) w
    else wpOp P ops Q i (fun a' w' => (L.contains i = true → Below w.heap.size w w') ∧ wpOrd P ops Q L M r a' w') a w
/-- May the operations be walked in this order? -/
def okOrd (P : Program) (md : Region.Mode) (ops : Array Oper) (L M : List Nat) : List Nat → Array Bool → Bool
  | [], listed => (Region.ready md ops listed).isEmpty
  | i :: r, listed => (match ops[i]? with
    | none => false
    | some o => if M.contains i then (Region.ready md ops listed).contains i && Region.free md ops listed i else match kindOf P o with
      | .blind => (Region.ready md ops listed).contains i && Region.free md ops listed i
      | .looks => (Region.ready md ops listed).contains i && Region.free md ops listed i && (List.range ops.size).all fun j => listed.getD j true || j == i || keepsB P ops (L ++ M) j || waitsT md ops ops.size j i
      | _ => Region.ready md ops listed == [i]) && okOrd P md ops L M r (listed.setIfInBounds i true)
/-- Q, but a panic is shown not to be. -/
def NP (Q : Exit → Act → World → Prop) : Exit → Act → World → Prop
  | .panic _, _, _ => False
  | .outgrown, _, _ => False
  | e, a, w => Q e a w
theorem NP.imp : ∀ (e : Exit) (a : Act) (w : World), NP Q e a w → Q e a w := fun e a w h => by
  cases e <;> first | exact h | exact (h : False).elim
theorem NP.noAsk (h : LetsOut (NP Q)) : False := by obtain ⟨_, _, h⟩ := h; exact h
/-- What an operation that only looks does. -/
theorem looks_first {i : Nat} {o : Oper} {a : Act} {w : World} {K : Act → World → Prop} (hi : ops[i]? = some o) (hk : kindOf P o = .looks) (h : wpOp P ops (NP Q) i K a w) :
    ∃ v, YieldsIf P ops (fun x => Below w.heap.size w x) o v a ∧ K (a.put o.dst v) w := by
  unfold wpOp at h
  simp only [hi] at h
  by_cases hw : Region.wanted o (yielded ops a.tmps) = true
  · rw [if_pos hw] at h
    rcases h with h | ⟨_, h⟩
    · unfold Oper.wp at h
      cases hr : (execOp a.eval o).run P w with
      | ok n w1 =>
        obtain ⟨⟨v, rfl⟩, rfl, hs⟩ := looks_spec hk hr
        rw [hr] at h
        exact ⟨v, .inl ⟨hw, fun x hx => hs x hx⟩, h⟩
      | halt x w1 =>
        rw [hr] at h
        cases x <;> exact (h : False).elim
    · exact (NP.noAsk h).elim
  · rw [if_neg hw] at h
    exact ⟨undef, .inr ⟨by simpa using hw, rfl⟩, h⟩
theorem blind_first {i : Nat} {o : Oper} {a : Act} {w : World} {K : Act → World → Prop} (hi : ops[i]? = some o) (hk : kindOf P o = .blind) (h : wpOp P ops (NP Q) i K a w) :
    ∃ v, YieldsIf P ops (fun _ => True) o v a ∧ K (a.put o.dst v) w := by
  unfold wpOp at h
  simp only [hi] at h
  by_cases hw : Region.wanted o (yielded ops a.tmps) = true
  · rw [if_pos hw] at h
    rcases h with h | ⟨_, h⟩
    · unfold Oper.wp at h
      cases hr : (execOp a.eval o).run P w with
      | ok n w1 =>
        obtain ⟨⟨v, rfl⟩, rfl, hs⟩ := blind_spec hk hr
        rw [hr] at h
        exact ⟨v, .inl ⟨hw, fun x _ => hs x⟩, h⟩
      | halt x w1 =>
        rw [hr] at h
        cases x <;> exact (h : False).elim
    · exact (NP.noAsk h).elim
  · rw [if_neg hw] at h
    exact ⟨undef, .inr ⟨by simpa using hw, rfl⟩, h⟩
theorem grows_first {i : Nat} {o : Oper} {a : Act} {w : World} {K : Act → World → Prop} (hi : ops[i]? = some o) (hk : kindOf P o = .grows) (h : wpOp P ops (NP Q) i K a w) :
    wpOp P ops (NP Q) i (fun a' w' => Below w.heap.size w w' ∧ K a' w') a w := by
  unfold wpOp at h ⊢
  simp only [hi] at h ⊢
  by_cases hw : Region.wanted o (yielded ops a.tmps) = true
  · rw [if_pos hw] at h ⊢
    rcases h with h | ⟨_, h⟩
    · left
      unfold Oper.wp at h ⊢
      cases hr : (execOp a.eval o).run P w with
      | ok n w1 =>
        obtain ⟨⟨v, rfl⟩, hb⟩ := grows_spec hk hr
        rw [hr] at h
        exact ⟨hb, h⟩
      | halt x w1 =>
        rw [hr] at h
        cases x <;> exact (h : False).elim
    · exact (NP.noAsk h).elim
  · rw [if_neg hw] at h ⊢
    exact ⟨Below.refl _ _, h⟩
theorem wpB_of_ord (hsel : Region.noSelect ops = true) : ∀ (order : List Nat) (listed : Array Bool) (a : Act) (w : World), Closed md ops listed → okOrd P md ops L M order listed = true →
    wpOrd P ops (NP Q) L M order a w → wpB P md ops (NP Q) (L ++ M) order.length listed a w
  | [], listed, a, w, _, hok, h => ⟨by simpa [okOrd] using hok, h⟩
  | i :: r, listed, a, w, hcl, hok, h => by
    have hsp := Region.noSelect_spec hsel
    unfold okOrd at hok
    rw [Bool.and_eq_true] at hok
    obtain ⟨h1, h2⟩ := hok
    split at h1
    · cases h1
    · rename_i o ho
      by_cases hM : M.contains i = true
      · rw [if_pos hM, Bool.and_eq_true] at h1
        have hr : i ∈ Region.ready md ops listed := by simpa using h1.1
        unfold wpOrd at h
        rw [if_pos hM] at h
        obtain ⟨o', v, ho', hy, hK⟩ := h
        have e : o' = o := Option.some.inj (ho'.symm.trans ho)
        subst e
        exact wpB_first (fun _ => True) (fun _ _ _ _ => trivial) ho hsp (fun _ _ _ x => x) r.length listed a w hcl (Region.free_spec ho h1.2) (.inl fun _ => trivial) hr hy trivial
          (wpB_of_ord hsel r _ _ _ (hcl.set hr) h2 hK)
      rw [if_neg hM] at h1
      unfold wpOrd at h
      rw [if_neg hM] at h
      split at h1
      · rename_i hk
        simp only [Bool.and_eq_true, List.contains_iff_mem] at h1
        have hr : i ∈ Region.ready md ops listed := by simpa using h1.1
        obtain ⟨v, hy, hK⟩ := blind_first ho hk h
        exact wpB_first (fun _ => True) (fun _ _ _ _ => trivial) ho hsp (fun _ _ _ x => x) r.length listed a w hcl (Region.free_spec ho h1.2) (.inl fun _ => trivial) hr hy trivial
          (wpB_of_ord hsel r _ _ _ (hcl.set hr) h2 hK.2)
      · rename_i hk
        simp only [Bool.and_eq_true] at h1
        have hr : i ∈ Region.ready md ops listed := by simpa using h1.1.1
        obtain ⟨v, hy, hK⟩ := looks_first ho hk h
        refine wpB_first (fun x => Below w.heap.size w x) (fun x y hx hxy => hx.trans (hxy.mono hx.size)) ho hsp (fun _ _ _ x => x) r.length listed a w hcl (Region.free_spec ho h1.1.2) (.inr fun j hj hji hkj => ?_) hr hy (Below.refl _ _)
          (wpB_of_ord hsel r _ _ _ (hcl.set hr) h2 hK.2)
        have hlt : j < ops.size := by
          rcases Nat.lt_or_ge j listed.size with h' | h'
          · rw [hcl.size] at h'; exact h'
          · simp [Array.getElem?_eq_none h'] at hj
        have := List.all_eq_true.1 h1.2 j (List.mem_range.2 hlt)
        simp only [hj, hkj, Bool.false_or, Bool.or_eq_true, beq_iff_eq, hji, false_or, Bool.or_false] at this
        exact ⟨_, this⟩
      · rename_i hk1 hk2
        have hr : Region.ready md ops listed = [i] := by simpa using h1
        have hm : i ∈ Region.ready md ops listed := by rw [hr]; simp
        refine ⟨fun h0 => absurd h0 (by rw [hr]; simp), fun j hj => ?_⟩
        have hj' : j = i := by rw [hr] at hj; simpa using hj
        subst hj'
        have hgo : ∀ a' w', wpOrd P ops (NP Q) L M r a' w' → wpB P md ops (NP Q) (L ++ M) r.length (listed.setIfInBounds j true) a' w' := fun a' w' x => wpB_of_ord hsel r _ _ _ (hcl.set hm) h2 x
        cases hk : kindOf P o with
        | blind => exact absurd hk hk1
        | looks => exact absurd hk hk2
        | grows => exact wpOp_mono (fun a' w' x => ⟨fun _ => x.1, hgo _ _ x.2.2⟩) (grows_first ho hk h)
        | other =>
          refine wpOp_mono (fun a' w' x => ⟨fun hb => x.1 ?_, hgo _ _ x.2⟩) h
          have hb' : j ∈ L ∨ j ∈ M := by simpa [keepsB, ho, hk] using hb
          rcases hb' with hb' | hb'
          · simpa using hb'
          · exact absurd (by simpa using hb') hM
/-- **A region whose order is drawn may be walked in one order.** -/
theorem region_ord {id : Nat} {a : Act} {w : World} (L order : List Nat) (hm : P.follows .mixedOrders = true) (hsel : Region.noSelect ops = true) (hlen : order.length = ops.size)
    (hok : okOrd P .any ops L [] order (Array.replicate ops.size false) = true) (h : wpOrd P ops (NP Q) L [] order a w.drew) : (Code.region id ops true).wp P Q a w := by
  refine Code.wp_mono NP.imp (wp_region_any hm ?_)
  rw [← hlen]
  have := wpB_of_ord (md := .any) hsel order _ a w.drew Closed.start hok h
  exact wpAny_of_wpB _ _ _ _ (by rw [hlen] at this ⊢; exact this)
/-- .. where the operations of M are shown to yield what they yield in whatever world. -/
theorem region_ordM {id : Nat} {a : Act} {w : World} (L M order : List Nat) (hm : P.follows .mixedOrders = true) (hsel : Region.noSelect ops = true) (hlen : order.length = ops.size)
    (hok : okOrd P .any ops L M order (Array.replicate ops.size false) = true) (h : wpOrd P ops (NP Q) L M order a w.drew) : (Code.region id ops true).wp P Q a w := by
  refine Code.wp_mono NP.imp (wp_region_any hm ?_)
  rw [← hlen]
  have := wpB_of_ord (md := .any) hsel order _ a w.drew Closed.start hok h
  exact wpAny_of_wpB _ _ _ _ (by rw [hlen] at this ⊢; exact this)
/-- A piece of the order, then the rest. -/
def NX (Q : Exit → Act → World → Prop) (K : Act → World → Prop) : Exit → Act → World → Prop
  | .normal, a, w => K a w
  | .panic _, _, _ => False
  | .outgrown, _, _ => False
  | e, a, w => Q e a w
theorem wp_next {o : Oper} {a : Act} {w : World} {K K' K0 : Act → World → Prop} (hK : ∀ a w, K a w → K' a w) (h : o.wp P a w K (NX (NP Q) K0)) : o.wp P a w K' (NP Q) := by
  unfold Oper.wp at *
  generalize (execOp a.eval o).run P w = r at *
  cases r with
  | ok n w' =>
    cases n <;> simp only [Oper.upon] at h ⊢ <;>
      first
        | exact hK _ _ h
        | exact Calls.mono h (fun e w'' he => by
            cases e
            · exact hK _ _ he
            · exact (he : False).elim
            · obtain ⟨_, _, he⟩ := he
              exact (he : False).elim)
        | exact Rows.mono h (fun _ _ he => hK _ _ he)
  | halt x w' => cases x <;> simp only [Oper.upon] at h ⊢ <;> exact (h : False).elim
/-- Operations that are walked in a row; none of them is one of L. -/
theorem ord_run {r : List Nat} : ∀ (l : List Nat) (lops : List Oper) {a : Act} {w : World}, l.map (ops[·]?) = lops.map some → (l.all fun i => !L.contains i && !M.contains i) = true →
    wpList P ops (NX (NP Q) (wpOrd P ops (NP Q) L M r)) lops a w → wpOrd P ops (NP Q) L M (l ++ r) a w
  | [], [], a, w, _, _, h => h
  | [], _ :: _, a, w, hl, _, h => by cases hl
  | _ :: _, [], a, w, hl, _, h => by cases hl
  | i :: l, o :: lops, a, w, hl, hL, h => by
    simp only [List.map_cons, List.cons.injEq] at hl
    simp only [List.all_cons, Bool.and_eq_true] at hL
    have ih := fun (a' : Act) (w' : World) => ord_run (r := r) l lops (a := a') (w := w') hl.2 hL.2
    have hnc : L.contains i = false := by simpa using hL.1.1
    have hnm : ¬ M.contains i = true := by simpa using hL.1.2
    show wpOrd P ops (NP Q) L M (i :: (l ++ r)) a w
    unfold wpOrd
    rw [if_neg hnm]
    unfold wpOp
    simp only [hl.1]
    unfold wpList at h
    split
    · rename_i hw
      rw [if_pos hw] at h
      rcases h with h | ⟨_, h⟩
      · exact .inl (wp_next (fun a' w' x => ⟨fun hc => (by rw [hnc] at hc; cases hc), ih a' w' x⟩) h)
      · obtain ⟨_, _, h⟩ := h
        exact (h : False).elim
    · rename_i hw
      rw [if_neg hw] at h
      exact ⟨fun hc => (by rw [hnc] at hc; cases hc), ih _ _ h⟩
/-- All that is left, in a row. -/
theorem ord_all {l : List Nat} (lops : List Oper) {a : Act} {w : World} (hl : l.map (ops[·]?) = lops.map some) (hL : (l.all fun i => !L.contains i && !M.contains i) = true)
    (h : wpList P ops (NX (NP Q) (NP Q .normal)) lops a w) : wpOrd P ops (NP Q) L M l a w := by
  have := ord_run (P := P) (Q := Q) (L := L) (M := M) (r := []) l lops hl hL h
  rwa [List.append_nil] at this
/-- An operation of L: behind it all that was there is shown to be as it was. -/
theorem ord_oneM {i : Nat} {o : Oper} {r : List Nat} {a : Act} {w : World} (hi : ops[i]? = some o) (hM : M.contains i = false)
    (h : wpList P ops (NX (NP Q) (fun a' w' => Below w.heap.size w w' ∧ wpOrd P ops (NP Q) L M r a' w')) [o] a w) : wpOrd P ops (NP Q) L M (i :: r) a w := by
  unfold wpOrd
  rw [if_neg (by rw [hM]; simp)]
  unfold wpOp
  simp only [hi]
  unfold wpList at h
  split
  · rename_i hw
    rw [if_pos hw] at h
    rcases h with h | ⟨_, h⟩
    · exact .inl (wp_next (fun a' w' x => ⟨fun _ => x.1, x.2⟩) h)
    · obtain ⟨_, _, h⟩ := h
      exact (h : False).elim
  · rename_i hw
    rw [if_neg hw] at h
    exact ⟨fun _ => h.1, h.2⟩
/-- The end of the order: the code goes on. -/
theorem nx_end {a : Act} {w : World} (h : Q .normal a w) : NX (NP Q) (NP Q .normal) .normal a w := h
theorem nx_ord {r : List Nat} {a : Act} {w : World} (h : wpOrd P ops (NP Q) L M r a w) : NX (NP Q) (wpOrd P ops (NP Q) L M r) .normal a w := h
theorem ord_one {i : Nat} {o : Oper} {r : List Nat} {a : Act} {w : World} (hi : ops[i]? = some o)
    (h : wpList P ops (NX (NP Q) (fun a' w' => Below w.heap.size w w' ∧ wpOrd P ops (NP Q) L [] r a' w')) [o] a w) : wpOrd P ops (NP Q) L [] (i :: r) a w := ord_oneM hi rfl h
/-- An operation of M. -/
theorem ord_pure {i : Nat} {o : Oper} {r : List Nat} {a : Act} {w : World} (v : Value) (hi : ops[i]? = some o) (hM : M.contains i = true) (hw : Region.wanted o (yielded ops a.tmps) = true)
    (hv : ∀ w', (execOp a.eval o).run P w' = .ok (.value v) w') (h : wpOrd P ops (NP Q) L M r (a.put o.dst v) w) : wpOrd P ops (NP Q) L M (i :: r) a w := by
  unfold wpOrd
  rw [if_pos hM]
  exact ⟨o, v, hi, .inl ⟨hw, fun w' _ => hv w'⟩, h⟩
theorem nx_and {r : List Nat} {a : Act} {w0 w : World} (hb : Below w0.heap.size w0 w) (h : wpOrd P ops (NP Q) L M r a w) : NX (NP Q) (fun a' w' => Below w0.heap.size w0 w' ∧ wpOrd P ops (NP Q) L M r a' w') .normal a w := ⟨hb, h⟩
end
end Go.Proofs.Ytomncfiklkhfjaa.Ord
