/- A drawn region: one condition on the world that holds throughout, a second that holds till operation 'n' has come up. -/
import Derived.Test.YtomncfiklkhfjaaOwnG
import Derived.Deep.RegionHeld3
namespace Go.Proofs.Ytomncfiklkhfjaa.Held
open Go.RowKit Mem
section
variable {P : Program} {ops : Array Oper} {Q : Exit → Act → World → Prop} {md : Region.Mode} {S T : World → Prop} {n : Nat}
/-- S throughout; T while 'n' has not come up. -/
def Both (S T : World → Prop) (n : Nat) (listed : Array Bool) (w : World) : Prop := S w ∧ (listed.getD n true = false → T w)
/-- The rest of the region in whatever order, 'Both' shown behind each operation. -/
def anyT (P : Program) (md : Region.Mode) (ops : Array Oper) (Q : Exit → Act → World → Prop) (S T : World → Prop) (n : Nat) : Nat → Array Bool → Act → World → Prop
  | 0, listed, a, w => Region.ready md ops listed = [] ∧ Q .normal a w
  | k + 1, listed, a, w => (Region.ready md ops listed = [] → Q .normal a w) ∧
      ∀ i ∈ Region.ready md ops listed, wpOp P ops Q i (fun a' w' => Both S T n (listed.setIfInBounds i true) w' ∧ anyT P md ops Q S T n k (listed.setIfInBounds i true) a' w') a w
theorem anyT_any : ∀ (k : Nat) (listed : Array Bool) (a : Act) (w : World), anyT P md ops Q S T n k listed a w → wpAny P md ops Q k listed a w
  | 0, _, _, _, h => h
  | k + 1, _, _, _, h => ⟨h.1, fun i hi => wpOp_mono (fun a' w' x => anyT_any k _ a' w' x.2) (h.2 i hi)⟩
/-- Does 'n' wait for 'i'? -/
def waits (md : Region.Mode) (ops : Array Oper) (n i : Nat) : Bool := match ops[n]? with
  | some o => o.after.any fun e => Region.binds md e && e.on == i
  | none => false
theorem anyT_first {i : Nat} {oi : Oper} {v : Value} (U : World → Prop) (hi : ops[i]? = some oi) (hsel : ∀ (j : Nat) (o : Oper) cs b, ops[j]? = some o → o.op ≠ .select cs b)
    (hQ : ∀ c a w, Q (.panic c) (a.put oi.dst v) w → Q (.panic c) a w) (hin : i ≠ n) :
    ∀ (k : Nat) (listed : Array Bool) (a : Act) (w : World),
      (∀ j oj, ops[j]? = some oj → j ≠ i → listed.getD j true = false → (∀ e ∈ oj.after, Region.binds md e = true → e.on ≠ i) → oi.apart ops oj = true) →
      ((∀ x, S x → U x) ∨ (∀ x, S x → T x → U x) ∧ waits md ops n i = true ∧ listed.getD n true = false) →
      i ∈ Region.ready md ops listed → YieldsIf P ops U oi v a → Both S T n listed w →
      anyT P md ops Q S T n k (listed.setIfInBounds i true) (a.put oi.dst v) w → anyT P md ops Q S T n (k + 1) listed a w := by
  intro k
  induction k with
  | zero =>
    intro listed a w _ hU hr hy hB H
    have hu : U w := by
      rcases hU with h | ⟨h, _, hn⟩
      · exact h _ hB.1
      · exact h _ hB.1 (hB.2 hn)
    refine ⟨fun h => absurd hr (by rw [h]; simp), fun j hj => ?_⟩
    by_cases hji : j = i
    · subst hji
      exact hy.wpOp hi hu ⟨⟨hB.1, fun hn => hB.2 (by rwa [getD_set_ne true hin] at hn)⟩, H⟩
    · exact absurd (ready_mono hj hji) (by rw [H.1]; simp)
  | succ k ih =>
    intro listed a w hfree hU hr hy hB H
    have hu : U w := by
      rcases hU with h | ⟨h, _, hn⟩
      · exact h _ hB.1
      · exact h _ hB.1 (hB.2 hn)
    refine ⟨fun h => absurd hr (by rw [h]; simp), fun j hj => ?_⟩
    by_cases hji : j = i
    · subst hji
      exact hy.wpOp hi hu ⟨⟨hB.1, fun hn => hB.2 (by rwa [getD_set_ne true hin] at hn)⟩, H⟩
    · obtain ⟨hun, oj, hoj, hall⟩ := mem_ready.1 hj
      have hi0 := (mem_ready.1 hr).1
      have hno : ∀ e ∈ oj.after, Region.binds md e = true → e.on ≠ i := fun e he hb heq => by
        have h1 := hall e he hb
        rw [heq] at h1
        rcases Nat.lt_or_ge i listed.size with h' | h'
        · simp [h'] at hi0 h1; rw [hi0] at h1; cases h1
        · simp [Array.getElem?_eq_none h'] at h1
      have hU' : (∀ x, S x → U x) ∨ (∀ x, S x → T x → U x) ∧ waits md ops n i = true ∧ (listed.setIfInBounds j true).getD n true = false := by
        rcases hU with h | ⟨h, hw, hn⟩
        · exact .inl h
        · refine .inr ⟨h, hw, ?_⟩
          have hjn : j ≠ n := fun e => by
            subst e
            unfold waits at hw
            rw [hoj] at hw
            obtain ⟨m, hm, hb⟩ := Array.any_eq_true.1 hw
            simp only [Bool.and_eq_true, beq_iff_eq] at hb
            exact hno _ (Array.getElem_mem hm) hb.1 hb.2
          rw [getD_set_ne true hjn]
          exact hn
      refine wpOp_mono (fun a' w' x => ?_) (wpOp_putIf hoj (hfree j oj hoj hji hun hno) (fun cs b => hsel i oi cs b hi) (fun cs b => hsel j oj cs b hoj) hQ hy (H.2 j (ready_mono hj hji)))
      have hB' : Both S T n (listed.setIfInBounds j true) w' := ⟨x.2.1.1, fun hn => x.2.1.2 (by
        rw [Array.setIfInBounds_comm _ _ (Ne.symm hji), getD_set_ne true hin]; exact hn)⟩
      refine ⟨hB', ih (listed.setIfInBounds j true) a' w' (fun m om hm hmi hmu hmo => ?_) hU' (ready_mono hr (Ne.symm hji)) x.1 hB' ?_⟩
      · refine hfree m om hm hmi ?_ hmo
        by_cases hjm : j = m
        · subst hjm; exact hun
        · rw [getD_set_ne true hjm] at hmu; exact hmu
      · rw [Array.setIfInBounds_comm _ _ hji]
        exact x.2.2
theorem Both.next {i : Nat} {listed : Array Bool} {w : World} (h : Both S T n listed w) (hin : (i == n) = false) : Both S T n (listed.setIfInBounds i true) w :=
  ⟨h.1, fun hn => h.2 (by rwa [getD_set_ne true (by simpa using hin)] at hn)⟩
/-- Take 'i' first: it yields 'v' wherever S holds. -/
theorem take_s {i : Nat} {oi : Oper} {v : Value} {k : Nat} {listed : Array Bool} {a : Act} {w : World} (hi : ops[i]? = some oi)
    (hs : Region.noSelect ops = true) (hf : Region.free md ops listed i = true) (hr : (Region.ready md ops listed).contains i = true) (hin : (i == n) = false)
    (hQ : ∀ c a w, Q (.panic c) (a.put oi.dst v) w → Q (.panic c) a w) (hy : YieldsIf P ops S oi v a) (hB : Both S T n listed w)
    (h : Both S T n (listed.setIfInBounds i true) w → anyT P md ops Q S T n k (listed.setIfInBounds i true) (a.put oi.dst v) w) : anyT P md ops Q S T n (k + 1) listed a w :=
  have hne : i ≠ n := by simpa using hin
  anyT_first S hi (Region.noSelect_spec hs) hQ hne k listed a w (Region.free_spec hi hf) (.inl fun _ x => x) (by simpa using hr) hy hB (h ⟨hB.1, fun hn => hB.2 (by rwa [getD_set_ne true hne] at hn)⟩)
/-- Take 'i' first: it yields 'v' wherever S and T hold, and 'n' waits for it. -/
theorem take_t {i : Nat} {oi : Oper} {v : Value} {k : Nat} {listed : Array Bool} {a : Act} {w : World} (hi : ops[i]? = some oi)
    (hs : Region.noSelect ops = true) (hf : Region.free md ops listed i = true) (hr : (Region.ready md ops listed).contains i = true) (hin : (i == n) = false)
    (hn : listed.getD n true = false) (hw : waits md ops n i = true)
    (hQ : ∀ c a w, Q (.panic c) (a.put oi.dst v) w → Q (.panic c) a w) (hy : YieldsIf P ops (fun x => S x ∧ T x) oi v a) (hB : Both S T n listed w)
    (h : Both S T n (listed.setIfInBounds i true) w → anyT P md ops Q S T n k (listed.setIfInBounds i true) (a.put oi.dst v) w) : anyT P md ops Q S T n (k + 1) listed a w :=
  have hne : i ≠ n := by simpa using hin
  anyT_first (fun x => S x ∧ T x) hi (Region.noSelect_spec hs) hQ hne k listed a w (Region.free_spec hi hf) (.inr ⟨fun _ x y => ⟨x, y⟩, hw, hn⟩) (by simpa using hr) hy hB (h ⟨hB.1, fun hn => hB.2 (by rwa [getD_set_ne true hne] at hn)⟩)
/-- Each of these comes up next. -/
def Each (P : Program) (md : Region.Mode) (ops : Array Oper) (Q : Exit → Act → World → Prop) (S T : World → Prop) (n k : Nat) (listed : Array Bool) (a : Act) (w : World) (rs : List Nat) : Prop :=
  ∀ i ∈ rs, wpOp P ops Q i (fun a' w' => Both S T n (listed.setIfInBounds i true) w' ∧ anyT P md ops Q S T n k (listed.setIfInBounds i true) a' w') a w
theorem Each.nil {k : Nat} {listed : Array Bool} {a : Act} {w : World} : Each P md ops Q S T n k listed a w [] := fun _ h => absurd h (by simp)
theorem Each.cons {k : Nat} {listed : Array Bool} {a : Act} {w : World} {i : Nat} {o : Oper} {rs : List Nat} (ho : ops[i]? = some o)
    (h : ∀ K : Act → World → Prop, Shut (∀ a w, Both S T n (listed.setIfInBounds i true) w → anyT P md ops Q S T n k (listed.setIfInBounds i true) a w → K a w) → if Region.wanted o (yielded ops a.tmps) = true then Oper.wp P o a w K Q else K (a.put o.dst undef) w)
    (hs : Each P md ops Q S T n k listed a w rs) : Each P md ops Q S T n k listed a w (i :: rs) := fun j hj => by
  rcases List.mem_cons.1 hj with rfl | hj
  · exact wpOp_step ho fun K hK => h K fun a w h1 h2 => hK a w ⟨h1, h2⟩
  · exact hs j hj
theorem ready_t {rs : List Nat} {k : Nat} {listed : Array Bool} {a : Act} {w : World} (hr : Region.ready md ops listed = rs) (hne : rs ≠ []) (h : Each P md ops Q S T n k listed a w rs) : anyT P md ops Q S T n (k + 1) listed a w :=
  ⟨fun h0 => absurd (hr ▸ h0) hne, fun i hi => h i (hr ▸ hi)⟩
theorem done_t {listed : Array Bool} {a : Act} {w : World} (hr : Region.ready md ops listed = []) (h : Q .normal a w) : ∀ k, anyT P md ops Q S T n k listed a w
  | 0 => ⟨hr, h⟩
  | _ + 1 => ⟨fun _ => h, by rw [hr]; simp⟩
/-- The beginning. -/
theorem begin_t (S T : World → Prop) (n : Nat) {id : Nat} {a : Act} {w : World} (hm : P.follows .mixedOrders = true) (hS : S w.drew) (hT : T w.drew)
    (h : Both S T n (Array.replicate ops.size false) w.drew → anyT P .any ops Q S T n ops.size (Array.replicate ops.size false) a w.drew) : (Code.region id ops true).wp P Q a w :=
  wp_region_any hm (anyT_any _ _ _ _ (h ⟨hS, fun _ => hT⟩))
end
end Go.Proofs.Ytomncfiklkhfjaa.Held
