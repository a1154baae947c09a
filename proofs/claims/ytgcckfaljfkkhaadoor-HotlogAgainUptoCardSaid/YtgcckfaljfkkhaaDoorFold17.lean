/- The reference's 'At' and 'Fit'. -/
import Derived.Test.YtgcckfaljfkkhaaDoorHotRPlace
import Derived.Test.YtgcckfaljfkkhaaDoorFold2
namespace Go.Proofs.YtgcckfaljfkkhaaDoor.Hot
open Go Go.RowKit Mem Pl
theorem pcEq_comm (a b c : Int) (d : Bool) (a' b' c' : Int) (d' : Bool) : pcEq a b c d a' b' c' d' = pcEq a' b' c' d' a b c d := by
  unfold pcEq
  rw [Bool.eq_iff_iff]
  simp only [Bool.and_eq_true, beq_iff_eq]
  constructor <;> rintro ⟨h1, h2, h3, h4⟩ <;> exact ⟨h1.symm, h2.symm, h3.symm, h4.symm⟩
set_option maxRecDepth 100000 in
set_option maxHeartbeats 4000000 in
theorem rat_any {w : World} {G : Nat → Prop} {r dev N : Nat} {used : List Pc} {bytes : List (List UInt8)} {U V : Value} {vs : List Value} (x : RHotB w G r dev N used bytes U V vs) (hul : used.length ≤ 1000000000) (d at_ len : Int) (b : Bool) :
    Calls Tryd.prog 42 #[.pointer (some ⟨r, 0, none⟩), .agg #[.int .i64 d, .int .i64 at_, .int .i64 len, .bool b]] w fun e w' => ∃ k, FindIs used (isP dev d at_ len) k ∧ e = .returned (.int .i64 (findI k)) ∧ Below w.heap.size w w' := by
  have HX := Lib.hid x
  clear x
  go_enter Tryd.func42, Tryd.ntmps42
  go_wp2_with fail
  have hb1 : Below w.heap.size w (w.alloc (.cells #[.int .i64 d, .int .i64 at_, .int .i64 len, .bool false] 36)) := below_al' _
  have HB1 := Lib.hid hb1
  have HK := Lib.hid (Blk.new w 36 #[.int .i64 d, .int .i64 at_, .int .i64 len, .bool false])
  have HX1 := Lib.hid (HX.out.below hb1)
  clear hb1 HX
  generalize w.alloc (.cells #[.int .i64 d, .int .i64 at_, .int .i64 len, .bool false] 36) = w1 at *
  have hltb := HK.out.lt
  go_loopw [5] (fun iv wr => IdxR used (isP dev d at_ len) w1 iv wr) (fun iv _ => used.length - (intOf iv).toNat)
  case atStart => exact ⟨0, 0, by omega, rfl, fun j u hj => by omega, rfl⟩
  case round =>
    obtain ⟨i, q, hi, rfl, hpre, rfl⟩ := hrel
    have HPRE := Lib.hid hpre
    clear hpre
    obtain ⟨AU, cU, hUe⟩ := HX1.out.uv.shape
    have c2 := HX1.out.c2
    by_cases hlt' : i < used.length
    · have hiI : (i : Int) < (used.length : Int) := by omega
      obtain ⟨u, hu⟩ : ∃ u, used[i]? = some u := ⟨_, List.getElem?_eq_getElem hlt'⟩
      obtain ⟨g, c, hU, e0, e1, e2, e3⟩ := used_cells HX1.out.uv hu
      rw [hU] at c2
      have k0 := (HK.out.cell 0).trans (show _ = some (.int .i64 d) from rfl)
      have k1 := (HK.out.cell 1).trans (show _ = some (.int .i64 at_) from rfl)
      have k2 := (HK.out.cell 2).trans (show _ = some (.int .i64 len) from rfl)
      have k3 := (HK.out.cell 3).trans (show _ = some (.bool false) from rfl)
      have HU := Lib.hid hu
      have heq := fun W => eql_pc (dev : Int) (u.1 : Int) (u.2 : Int) false d at_ len false W
      have hgd := fun W x y xs ys => guard_pc .eql x y xs ys W
      obtain ⟨r', hr⟩ : ∃ r, pcEq (dev : Int) (u.1 : Int) (u.2 : Int) false d at_ len false = r := ⟨_, rfl⟩
      have HR := Lib.hid (show isP dev d at_ len u = r' from (pcEq_comm ..).trans hr)
      rw [hr] at heq
      clear hr hu hU hUe
      go_wp2_with fail
      go_quiet (fail)
      cases r' with
      | true =>
        go_wp2_with fail
        go_ret
        exact ⟨some i, ⟨⟨u, HU.out, HR.out⟩, HPRE.out⟩, rfl, below_drewN (below_drewN HB1.out q) _⟩
      | false =>
        go_wp2_with fail
        go_roundw
        case rel => exact ⟨i + 1, q + nq, by omega, by simp, fun j v hj hv => by
          rcases Nat.lt_or_ge j i with h | h
          · exact HPRE.out j v h hv
          · obtain rfl : j = i := by omega
            rw [HU.out] at hv
            injection hv with hv
            rw [← hv]
            exact HR.out, rfl⟩
        case measure => simp [intOf]; omega
    · have hiI : ¬ (i : Int) < (used.length : Int) := by omega
      rw [hUe] at c2
      clear hUe
      go_wp2_with fail
      go_ret
      refine ⟨none, fun u hu => ?_, rfl, below_drewN HB1.out q⟩
      obtain ⟨j, hj⟩ := List.getElem?_of_mem hu
      exact HPRE.out j u (by have := (List.getElem?_eq_some_iff.1 hj).1; omega) hj
end Go.Proofs.YtgcckfaljfkkhaaDoor.Hot
/- A drawn region walked by a tree of orders: where two operations that write may come up next, both are shown. -/
namespace Go.Proofs.YtgcckfaljfkkhaaDoor.Ord
open Go.RowKit Mem
section
variable {P : Program} {ops : Array Oper} {Q : Exit → Act → World → Prop} {md : Region.Mode} {L : List Nat}
theorem wpOp_of_list {i : Nat} {o : Oper} {K : Act → World → Prop} {a : Act} {w : World} (hi : ops[i]? = some o) (h : wpList P ops (NX (NP Q) K) [o] a w) : wpOp P ops (NP Q) i K a w := by
  unfold wpOp
  simp only [hi]
  unfold wpList at h
  split
  · rename_i hw
    rw [if_pos hw] at h
    rcases h with h | ⟨_, h⟩
    · exact .inl (wp_next (fun a' w' x => x) h)
    · obtain ⟨_, _, h⟩ := h
      exact (h : False).elim
  · rename_i hw
    rw [if_neg hw] at h
    exact h
/-- The rest of the region, so many operations, from here. -/
def TB (P : Program) (md : Region.Mode) (ops : Array Oper) (Q : Exit → Act → World → Prop) (L : List Nat) (k : Nat) (listed : Array Bool) (a : Act) (w : World) : Prop := Closed md ops listed → wpB P md ops (NP Q) L k listed a w
theorem tb_start {id : Nat} {a : Act} {w : World} (L : List Nat) (hm : P.follows .mixedOrders = true) (h : TB P .any ops Q L ops.size (Array.replicate ops.size false) a w.drew) : (Code.region id ops true).wp P Q a w :=
  Code.wp_mono NP.imp (wp_region_any hm (wpAny_of_wpB _ _ _ _ (h Closed.start)))
theorem tb_ords {k : Nat} {listed : Array Bool} {a : Act} {w : World} (order : List Nat) (hsel : Region.noSelect ops = true) (hlen : order.length = k) (hok : okOrd P md ops L [] order listed = true) (h : wpOrd P ops (NP Q) L [] order a w) : TB P md ops Q L k listed a w := fun hc => by
  have := wpB_of_ord hsel order listed a w hc hok h
  rw [List.append_nil, hlen] at this
  exact this
/-- May operations that only look or reckon be walked ahead, in this order? -/
def okPre (P : Program) (md : Region.Mode) (ops : Array Oper) (L : List Nat) : List Nat → Array Bool → Bool
  | [], _ => true
  | i :: r, listed => (match ops[i]? with
    | none => false
    | some o => match kindOf P o with
      | .blind => (Region.ready md ops listed).contains i && Region.free md ops listed i
      | .looks => (Region.ready md ops listed).contains i && Region.free md ops listed i && (List.range ops.size).all fun j => listed.getD j true || j == i || keepsB P ops L j || waitsT md ops ops.size j i
      | _ => false) && okPre P md ops L r (listed.setIfInBounds i true)
theorem tb_pre_ (hsel : Region.noSelect ops = true) (k : Nat) : ∀ (l : List Nat) (lops : List Oper) (listed : Array Bool) (a : Act) (w : World), l.map (ops[·]?) = lops.map some → okPre P md ops L l listed = true →
    wpList P ops (NX (NP Q) fun a' w' => TB P md ops Q L k (l.foldl (fun x i => x.setIfInBounds i true) listed) a' w') lops a w → TB P md ops Q L (k + l.length) listed a w
  | [], [], _, _, _, _, _, h => h
  | [], _ :: _, _, _, _, hl, _, _ => by cases hl
  | _ :: _, [], _, _, _, hl, _, _ => by cases hl
  | i :: r, o :: lops, listed, a, w, hl, hok, h => fun hcl => by
    have hsp := Region.noSelect_spec hsel
    simp only [List.map_cons, List.cons.injEq] at hl
    obtain ⟨ho, hl2⟩ := hl
    unfold okPre at hok
    rw [Bool.and_eq_true] at hok
    obtain ⟨h1, h2⟩ := hok
    rw [ho] at h1
    simp only at h1
    have hstep : wpOp P ops (NP Q) i (fun a' w' => TB P md ops Q L (k + r.length) (listed.setIfInBounds i true) a' w') a w := by
      unfold wpOp
      simp only [ho]
      unfold wpList at h
      split
      · rename_i hw
        rw [if_pos hw] at h
        rcases h with h | ⟨_, h⟩
        · exact .inl (wp_next (fun a' w' x => tb_pre_ hsel k r lops _ a' w' hl2 h2 x) h)
        · obtain ⟨_, _, h⟩ := h
          exact (h : False).elim
      · rename_i hw
        rw [if_neg hw] at h
        exact tb_pre_ hsel k r lops _ _ _ hl2 h2 h
    show wpB P md ops (NP Q) L (k + r.length + 1) listed a w
    split at h1
    · rename_i hk
      simp only [Bool.and_eq_true] at h1
      have hr : i ∈ Region.ready md ops listed := by simpa using h1.1
      obtain ⟨v, hy, hK⟩ := blind_first ho hk hstep
      exact wpB_first (fun _ => True) (fun _ _ _ _ => trivial) ho hsp (fun _ _ _ x => x) _ listed a w hcl (Region.free_spec ho h1.2) (.inl fun _ => trivial) hr hy trivial (hK (hcl.set hr))
    · rename_i hk
      simp only [Bool.and_eq_true] at h1
      have hr : i ∈ Region.ready md ops listed := by simpa using h1.1.1
      obtain ⟨v, hy, hK⟩ := looks_first ho hk hstep
      refine wpB_first (fun x => Below w.heap.size w x) (fun x y hx hxy => hx.trans (hxy.mono hx.size)) ho hsp (fun _ _ _ x => x) _ listed a w hcl (Region.free_spec ho h1.1.2) (.inr fun j hj hji hkj => ?_) hr hy (Below.refl _ _) (hK (hcl.set hr))
      have hlt : j < ops.size := by
        rcases Nat.lt_or_ge j listed.size with h' | h'
        · rw [hcl.size] at h'; exact h'
        · simp [Array.getElem?_eq_none h'] at hj
      have := List.all_eq_true.1 h1.2 j (List.mem_range.2 hlt)
      simp only [hj, hkj, Bool.false_or, Bool.or_eq_true, beq_iff_eq, hji, false_or, Bool.or_false] at this
      exact ⟨_, this⟩
    · cases h1
theorem tb_pre {k m : Nat} {listed : Array Bool} {a : Act} {w : World} (l : List Nat) (lops : List Oper) (hsel : Region.noSelect ops = true) (hk : m = k + l.length) (hl : l.map (ops[·]?) = lops.map some) (hok : okPre P md ops L l listed = true)
    (h : wpList P ops (NX (NP Q) fun a' w' => TB P md ops Q L k (l.foldl (fun x i => x.setIfInBounds i true) listed) a' w') lops a w) : TB P md ops Q L m listed a w := by
  subst hk
  exact tb_pre_ hsel k l lops listed a w hl hok h
/-- Two may come up next. -/
theorem tb_fork {i j k : Nat} {oi oj : Oper} {listed : Array Bool} {a : Act} {w : World} (hr : Region.ready md ops listed = [i, j]) (hi : ops[i]? = some oi) (hj : ops[j]? = some oj)
    (h1 : wpList P ops (NX (NP Q) fun a' w' => Below w.heap.size w w' ∧ TB P md ops Q L k (listed.setIfInBounds i true) a' w') [oi] a w)
    (h2 : wpList P ops (NX (NP Q) fun a' w' => Below w.heap.size w w' ∧ TB P md ops Q L k (listed.setIfInBounds j true) a' w') [oj] a w) : TB P md ops Q L (k + 1) listed a w := fun hcl =>
  ⟨fun h0 => absurd h0 (by rw [hr]; simp), fun m hm => by
    have hm' := hm
    rw [hr] at hm'
    simp only [List.mem_cons, List.not_mem_nil, or_false] at hm'
    rcases hm' with rfl | rfl
    · exact wpOp_mono (fun a' w' x => ⟨fun _ => x.1, x.2 (hcl.set hm)⟩) (wpOp_of_list hi h1)
    · exact wpOp_mono (fun a' w' x => ⟨fun _ => x.1, x.2 (hcl.set hm)⟩) (wpOp_of_list hj h2)⟩
theorem nx_tb {k : Nat} {listed : Array Bool} {a : Act} {w : World} (h : TB P md ops Q L k listed a w) : NX (NP Q) (fun a' w' => TB P md ops Q L k listed a' w') .normal a w := h
theorem nx_tb2 {k : Nat} {listed : Array Bool} {a : Act} {w0 w : World} (hb : Below w0.heap.size w0 w) (h : TB P md ops Q L k listed a w) : NX (NP Q) (fun a' w' => Below w0.heap.size w0 w' ∧ TB P md ops Q L k listed a' w') .normal a w := ⟨hb, h⟩
end
end Go.Proofs.YtgcckfaljfkkhaaDoor.Ord
