/- A drawn region walked by a tree of orders: where two operations that write may come up next, both are shown. -/
import Derived.Test.YtloffgoenaomkaaDoorFold2
namespace Go.Proofs.YtloffgoenaomkaaDoor.Ord
open Go.RowKit Mem
section
variable {P : Program} {ops : Array Oper} {Q : Exit → Act → World → Prop} {md : Region.Mode} {L : List Nat}
theorem wpOp_of_list {i : Nat} {o : Oper} {K : Act → World → Prop} {a : Act} {w : World} (hi : ops[i]? = some o) (h : wpList P ops (NX (NP Q) K) [o] a w) : wpOp P ops (NP Q) i K a w := by
  unfold wpOp
  simp only [hi]
  unfold wpList at h
  split
  · rename_i hw
    rw [if_pos hw] at h
    rcases h with h | ⟨_, h⟩
    · exact .inl (wp_next (fun a' w' x => x) h)
    · obtain ⟨_, _, h⟩ := h
      exact (h : False).elim
  · rename_i hw
    rw [if_neg hw] at h
    exact h
/-- The rest of the region, so many operations, from here. -/
def TB (P : Program) (md : Region.Mode) (ops : Array Oper) (Q : Exit → Act → World → Prop) (L : List Nat) (k : Nat) (listed : Array Bool) (a : Act) (w : World) : Prop := Closed md ops listed → wpB P md ops (NP Q) L k listed a w
theorem tb_start {id : Nat} {a : Act} {w : World} (L : List Nat) (hm : P.follows .mixedOrders = true) (h : TB P .any ops Q L ops.size (Array.replicate ops.size false) a w.drew) : (Code.region id ops true).wp P Q a w :=
  Code.wp_mono NP.imp (wp_region_any hm (wpAny_of_wpB _ _ _ _ (h Closed.start)))
theorem tb_ords {k : Nat} {listed : Array Bool} {a : Act} {w : World} (order : List Nat) (hsel : Region.noSelect ops = true) (hlen : order.length = k) (hok : okOrd P md ops L [] order listed = true) (h : wpOrd P ops (NP Q) L [] order a w) : TB P md ops Q L k listed a w := fun hc => by
  have := wpB_of_ord hsel order listed a w hc hok h
  rw [List.append_nil, hlen] at this
  exact this
/-- May operations that only look or reckon be walked ahead, in this order? -/
def okPre (P : Program) (md : Region.Mode) (ops : Array Oper) (L : List Nat) : List Nat → Array Bool → Bool
  | [], _ => true
  | i :: r, listed => (match ops[i]? with
    | none => false
    | some o => match kindOf P o with
      | .blind => (Region.ready md ops listed).contains i && Region.free md ops listed i
      | .looks => (Region.ready md ops listed).contains i && Region.free md ops listed i && (List.range ops.size).all fun j => listed.getD j true || j == i || keepsB P ops L j || waitsT md ops ops.size j i
      | _ => false) && okPre P md ops L r (listed.setIfInBounds i true)
theorem tb_pre_ (hsel : Region.noSelect ops = true) (k : Nat) : ∀ (l : List Nat) (lops : List Oper) (listed : Array Bool) (a : Act) (w : World), l.map (ops[·]?) = lops.map some → okPre P md ops L l listed = true →
    wpList P ops (NX (NP Q) fun a' w' => TB P md ops Q L k (l.foldl (fun x i => x.setIfInBounds i true) listed) a' w') lops a w → TB P md ops Q L (k + l.length) listed a w
  | [], [], _, _, _, _, _, h => h
  | [], _ :: _, _, _, _, hl, _, _ => by cases hl
  | _ :: _, [], _, _, _, hl, _, _ => by cases hl
  | i :: r, o :: lops, listed, a, w, hl, hok, h => fun hcl => by
    have hsp := Region.noSelect_spec hsel
    simp only [List.map_cons, List.cons.injEq] at hl
    obtain ⟨ho, hl2⟩ := hl
    unfold okPre at hok
    rw [Bool.and_eq_true] at hok
    obtain ⟨h1, h2⟩ := hok
    rw [ho] at h1
    simp only at h1
    have hstep : wpOp P ops (NP Q) i (fun a' w' => TB P md ops Q L (k + r.length) (listed.setIfInBounds i true) a' w') a w := by
      unfold wpOp
      simp only [ho]
      unfold wpList at h
      split
      · rename_i hw
        rw [if_pos hw] at h
        rcases h with h | ⟨_, h⟩
        · exact .inl (wp_next (fun a' w' x => tb_pre_ hsel k r lops _ a' w' hl2 h2 x) h)
        · obtain ⟨_, _, h⟩ := h
          exact (h : False).elim
      · rename_i hw
        rw [if_neg hw] at h
        exact tb_pre_ hsel k r lops _ _ _ hl2 h2 h
    show wpB P md ops (NP Q) L (k + r.length + 1) listed a w
    split at h1
    · rename_i hk
      simp only [Bool.and_eq_true] at h1
      have hr : i ∈ Region.ready md ops listed := by simpa using h1.1
      obtain ⟨v, hy, hK⟩ := blind_first ho hk hstep
      exact wpB_first (fun _ => True) (fun _ _ _ _ => trivial) ho hsp (fun _ _ _ x => x) _ listed a w hcl (Region.free_spec ho h1.2) (.inl fun _ => trivial) hr hy trivial (hK (hcl.set hr))
    · rename_i hk
      simp only [Bool.and_eq_true] at h1
      have hr : i ∈ Region.ready md ops listed := by simpa using h1.1.1
      obtain ⟨v, hy, hK⟩ := looks_first ho hk hstep
      refine wpB_first (fun x => Below w.heap.size w x) (fun x y hx hxy => hx.trans (hxy.mono hx.size)) ho hsp (fun _ _ _ x => x) _ listed a w hcl (Region.free_spec ho h1.1.2) (.inr fun j hj hji hkj => ?_) hr hy (Below.refl _ _) (hK (hcl.set hr))
      have hlt : j < ops.size := by
        rcases Nat.lt_or_ge j listed.size with h' | h'
        · rw [hcl.size] at h'; exact h'
        · simp [Array.getElem?_eq_none h'] at hj
      have := List.all_eq_true.1 h1.2 j (List.mem_range.2 hlt)
      simp only [hj, hkj, Bool.false_or, Bool.or_eq_true, beq_iff_eq, hji, false_or, Bool.or_false] at this
      exact ⟨_, this⟩
    · cases h1
theorem tb_pre {k m : Nat} {listed : Array Bool} {a : Act} {w : World} (l : List Nat) (lops : List Oper) (hsel : Region.noSelect ops = true) (hk : m = k + l.length) (hl : l.map (ops[·]?) = lops.map some) (hok : okPre P md ops L l listed = true)
    (h : wpList P ops (NX (NP Q) fun a' w' => TB P md ops Q L k (l.foldl (fun x i => x.setIfInBounds i true) listed) a' w') lops a w) : TB P md ops Q L m listed a w := by
  subst hk
  exact tb_pre_ hsel k l lops listed a w hl hok h
/-- Two may come up next. -/
theorem tb_fork {i j k : Nat} {oi oj : Oper} {listed : Array Bool} {a : Act} {w : World} (hr : Region.ready md ops listed = [i, j]) (hi : ops[i]? = some oi) (hj : ops[j]? = some oj)
    (h1 : wpList P ops (NX (NP Q) fun a' w' => Below w.heap.size w w' ∧ TB P md ops Q L k (listed.setIfInBounds i true) a' w') [oi] a w)
    (h2 : wpList P ops (NX (NP Q) fun a' w' => Below w.heap.size w w' ∧ TB P md ops Q L k (listed.setIfInBounds j true) a' w') [oj] a w) : TB P md ops Q L (k + 1) listed a w := fun hcl =>
  ⟨fun h0 => absurd h0 (by rw [hr]; simp), fun m hm => by
    have hm' := hm
    rw [hr] at hm'
    simp only [List.mem_cons, List.not_mem_nil, or_false] at hm'
    rcases hm' with rfl | rfl
    · exact wpOp_mono (fun a' w' x => ⟨fun _ => x.1, x.2 (hcl.set hm)⟩) (wpOp_of_list hi h1)
    · exact wpOp_mono (fun a' w' x => ⟨fun _ => x.1, x.2 (hcl.set hm)⟩) (wpOp_of_list hj h2)⟩
theorem nx_tb {k : Nat} {listed : Array Bool} {a : Act} {w : World} (h : TB P md ops Q L k listed a w) : NX (NP Q) (fun a' w' => TB P md ops Q L k listed a' w') .normal a w := h
theorem nx_tb2 {k : Nat} {listed : Array Bool} {a : Act} {w0 w : World} (hb : Below w0.heap.size w0 w) (h : TB P md ops Q L k listed a w) : NX (NP Q) (fun a' w' => Below w0.heap.size w0 w' ∧ TB P md ops Q L k listed a' w') .normal a w := ⟨hb, h⟩
end
end Go.Proofs.YtloffgoenaomkaaDoor.Ord
