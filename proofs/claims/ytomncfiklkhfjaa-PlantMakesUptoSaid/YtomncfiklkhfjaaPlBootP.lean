/- Boot, the plain part, and the map of ended tapes. -/
import Derived.Test.YtomncfiklkhfjaaPlFlush
import Derived.Test.YtomncfiklkhfjaaPlConcat
namespace Go.Proofs.Ytomncfiklkhfjaa.Pl
open Go Go.RowKit Mem
theorem and_1 (k : Int) : bits BinOp.and IntKind.i64 k 1 = k % 2 := by
  show IntKind.i64.wrap ((BitVec.ofInt 64 k &&& BitVec.ofInt 64 1).toNat : Int) = _
  have h1 : (BitVec.ofInt 64 1).toNat = 1 := by decide
  rw [BitVec.toNat_and, h1, Nat.and_one_is_mod, BitVec.toNat_ofInt]
  have h2 : (((k % (2 ^ 64 : Nat)).toNat % 2 : Nat) : Int) = k % 2 := by
    have : (2 ^ 64 : Nat) = 18446744073709551616 := by decide
    rw [this]
    omega
  rw [h2]
  exact IntWalk.i64_in _ (by omega)
theorem and_3 (k : Int) : bits BinOp.and IntKind.i64 k 3 = k % 4 := by
  show IntKind.i64.wrap ((BitVec.ofInt 64 k &&& BitVec.ofInt 64 3).toNat : Int) = _
  have h1 : (BitVec.ofInt 64 3).toNat = 3 := by decide
  have h3 : ∀ n : Nat, n &&& 3 = n % 4 := fun n => Nat.and_two_pow_sub_one_eq_mod n 2
  rw [BitVec.toNat_and, h1, h3, BitVec.toNat_ofInt]
  have h2 : (((k % (2 ^ 64 : Nat)).toNat % 4 : Nat) : Int) = k % 4 := by
    have : (2 ^ 64 : Nat) = 18446744073709551616 := by decide
    rw [this]
    omega
  rw [h2]
  exact IntWalk.i64_in _ (by omega)
theorem bootGo_snoc (keep : List Int) : ∀ (ws : List Wr) (i : Nat) (x : Wr) (s : List Dev × List Nat), bootGo keep i (ws ++ [x]) s = bootStep keep (bootGo keep i ws s) (i + ws.length) x
  | [], i, x, s => rfl
  | y :: ws, i, x, s => by
    show bootGo keep (i + 1) (ws ++ [x]) (bootStep keep s i y) = _
    rw [bootGo_snoc keep ws (i + 1) x]
    show _ = bootStep keep (bootGo keep (i + 1) ws (bootStep keep s i y)) (i + (ws.length + 1)) x
    rw [show i + 1 + ws.length = i + (ws.length + 1) by omega]
/-- The state ahead of round q. -/
def PM.bootAt (p : PM) (keep : List Int) (q : Nat) : List Dev × List Nat := bootGo keep 0 (p.waits.take q) (p.devs, [])
theorem PM.bootAt_next {p : PM} {keep : List Int} {q : Nat} {x : Wr} (hx : p.waits[q]? = some x) : p.bootAt keep (q + 1) = bootStep keep (p.bootAt keep q) q x := by
  unfold PM.bootAt
  rw [take_snoc hx, bootGo_snoc]
  have : (p.waits.take q).length = q := by
    have := (List.getElem?_eq_some_iff.1 hx).1
    rw [List.length_take]
    omega
  rw [this, Nat.zero_add]
theorem torn_len {b : List UInt8} (h : b.length = 64) : (torn b).length = 64 := by
  unfold torn
  simp [h]
theorem Dev.settle_same (d : Dev) (k : Nat) (b : List UInt8) : (d.settle k b).tape = d.tape ∧ (d.settle k b).most = d.most ∧ (d.settle k b).has.length = (if d.tape then d.has.length + 1 else d.has.length) := by
  unfold Dev.settle
  cases ht : d.tape <;> simp [ht]
/-- What is so of the devices ahead of round q. -/
structure BootInv (p : PM) (q : Nat) (s : List Dev × List Nat) : Prop where
  len : s.1.length = p.devs.length
  dev : ∀ (i : Nat) (d : Dev), p.devs[i]? = some d → ∃ d', s.1[i]? = some d' ∧ d'.tape = d.tape ∧ d'.most = d.most ∧ (d.tape = false → d'.has.length = d.has.length) ∧
    (d.tape = true → s.2.contains i = false → d'.has.length = d.has.length + cnt (p.waits.take q) i) ∧ (d.tape = true → d'.has.length ≤ d.has.length + cnt (p.waits.take q) i) ∧ (∀ b ∈ d'.has, b.length = 64)
theorem PM.Ok.place_at {p : PM} (h : p.Ok) {j : Nat} {d : Dev} (hd : p.devs[j]? = some d) (ht : d.tape = true) {k : Nat} {x : Wr} (hx : p.waits[k]? = some x) (hj : x.dev = j) : x.place = d.has.length + cnt (p.waits.take k) j := by
  have hw := h.wtape j d hd ht
  have hg := hit_take_len j p.waits hx hj
  have hg2 : ((hit j p.waits).map (·.place))[(hit j (p.waits.take k)).length]? = some x.place := by rw [List.getElem?_map, hg]; rfl
  unfold hit at hg2 hg
  have hlk := (List.getElem?_eq_some_iff.1 hg).1
  rw [← List.countP_eq_length_filter (l := p.waits)] at hlk
  rw [hw, List.getElem?_range' (show _ < cnt p.waits j from hlk)] at hg2
  injection hg2 with hg2
  have : cnt (p.waits.take k) j = ((p.waits.take k).filter fun x => x.dev == j).length := by unfold cnt; rw [List.countP_eq_length_filter]
  omega
theorem cnt_take_le (ws : List Wr) (k i : Nat) : cnt (ws.take k) i ≤ cnt ws i := (List.take_sublist k ws).countP_le
theorem cnt_take_next {ws : List Wr} {k : Nat} {x : Wr} (hx : ws[k]? = some x) (i : Nat) : cnt (ws.take (k + 1)) i = cnt (ws.take k) i + if x.dev = i then 1 else 0 := by
  rw [take_snoc hx, cnt_snoc]
theorem BootInv.step {p : PM} (hok : p.Ok) {keep : List Int} {q : Nat} {s : List Dev × List Nat} {x : Wr} (hx : p.waits[q]? = some x) (h : BootInv p q s) : BootInv p (q + 1) (bootStep keep s q x) := by
  have hxm := List.mem_of_getElem? hx
  have h64 := hok.wlen x hxm
  obtain ⟨dx, hdx⟩ : ∃ dx, p.devs[x.dev]? = some dx := ⟨_, List.getElem?_eq_getElem (hok.wdev x hxm)⟩
  obtain ⟨d', g1, g2, g3, g4, g5, g6, g7⟩ := h.dev x.dev dx hdx
  -- nothing is settled
  have hstay : ∀ e : List Nat, (s.2.contains x.dev = true ∨ dx.tape = false ∨ e.contains x.dev = true) → (∀ i, e.contains i = false → s.2.contains i = false) → BootInv p (q + 1) (s.1, e) := fun e he hsub => by
    refine ⟨h.len, fun i d hd => ?_⟩
    obtain ⟨c', k1, k2, k3, k4, k5, k6, k7⟩ := h.dev i d hd
    have hn := cnt_take_next hx i
    refine ⟨c', k1, k2, k3, k4, fun ht hc => ?_, fun ht => by have := k6 ht; omega, k7⟩
    have hsi := hsub i hc
    by_cases hi : x.dev = i
    · subst hi
      rw [hdx] at hd
      injection hd with hd
      subst hd
      rcases he with he | he | he
      · rw [he] at hsi; cases hsi
      · rw [ht] at he; cases he
      · rw [he] at hc; cases hc
    · rw [k5 ht hsi, hn, if_neg hi]
      omega
  -- something is settled
  have hset : ∀ (y : Wr) (e : List Nat), s.2.contains x.dev = false → y.dev = x.dev → y.place = x.place → y.b.length = 64 → (∀ i, e.contains i = false → s.2.contains i = false) → BootInv p (q + 1) (settle s.1 y, e) := fun y e hns hy hyp hyl hsub => by
    obtain ⟨m1, m2, m3⟩ := Dev.settle_same d' y.place y.b
    have hsg := settle_get s.1 y (by rw [hy]; exact g1)
    have hlt := (List.getElem?_eq_some_iff.1 g1).1
    refine ⟨by show (settle s.1 y).length = _; rw [hsg, List.length_set]; exact h.len, fun i d hd => ?_⟩
    have hn := cnt_take_next hx i
    show ∃ d', (settle s.1 y)[i]? = some d' ∧ _
    rw [hsg, hy]
    by_cases hi : x.dev = i
    · subst hi
      rw [hdx] at hd
      injection hd with hd
      subst hd
      rw [if_pos rfl] at hn
      refine ⟨_, by rw [List.getElem?_set_self hlt], m1.trans g2, m2.trans g3, fun ht => ?_, fun ht hc => ?_, fun ht => ?_, fun b hb => ?_⟩
      · rw [m3, g2, ht]; exact g4 ht
      · rw [m3, g2, ht, if_pos rfl, g5 ht hns, hn]; omega
      · rw [m3, g2, ht, if_pos rfl, hn]; have := g6 ht; omega
      · unfold Dev.settle at hb
        split at hb
        · rcases List.mem_append.1 hb with hb | hb
          · exact g7 b hb
          · simp at hb
            rw [hb]; exact hyl
        · rcases List.mem_or_eq_of_mem_set hb with hb | hb
          · exact g7 b hb
          · rw [hb]; exact hyl
    · rw [List.getElem?_set_ne hi]
      obtain ⟨c', k1, k2, k3, k4, k5, k6, k7⟩ := h.dev i d hd
      exact ⟨c', k1, k2, k3, k4, fun ht hc => by rw [k5 ht (hsub i hc), hn, if_neg hi]; omega, fun ht => by have := k6 ht; omega, k7⟩
  have hsub : ∀ i, (s.2 ++ [x.dev]).contains i = false → s.2.contains i = false := fun i hi => by
    cases hc : s.2.contains i with
    | false => rfl
    | true =>
      rw [List.contains_iff_mem] at hc
      have : (s.2 ++ [x.dev]).contains i = true := List.contains_iff_mem.2 (List.mem_append_left _ hc)
      rw [this] at hi
      cases hi
  have hin : (s.2 ++ [x.dev]).contains x.dev = true := List.contains_iff_mem.2 (by simp)
  unfold bootStep
  cases hc : s.2.contains x.dev with
  | true =>
    simp only [if_true]
    exact hstay s.2 (.inl hc) fun _ h => h
  | false =>
    have htp : (s.1[x.dev]?).any (·.tape) = dx.tape := by rw [g1]; exact g2
    simp only [Bool.false_eq_true, if_false, htp]
    split
    · exact hset x s.2 hc rfl rfl h64 fun _ h => h
    · cases ht : dx.tape with
      | false =>
        simp only [Bool.false_eq_true, if_false]
        exact hstay s.2 (.inr (.inl ht)) fun _ h => h
      | true =>
        simp only [if_true]
        split
        · exact hset { x with b := torn x.b } _ hc rfl rfl (torn_len h64) hsub
        · exact hstay _ (.inr (.inr hin)) hsub
theorem PM.Ok.bootInv {p : PM} (hok : p.Ok) (keep : List Int) : ∀ q, q ≤ p.waits.length → BootInv p q (p.bootAt keep q)
  | 0, _ => by
    unfold PM.bootAt
    exact ⟨rfl, fun i d hd => ⟨d, hd, rfl, rfl, fun _ => rfl, fun _ _ => by simp [cnt], fun _ => by simp [cnt], fun b hb => hok.sec i d b hd hb⟩⟩
  | q + 1, h => by
    have hx : p.waits[q]? = some p.waits[q] := List.getElem?_eq_getElem (by omega)
    rw [PM.bootAt_next hx]
    exact (hok.bootInv keep q (by omega)).step hok hx
theorem PM.boot_eq (p : PM) (keep : List Int) : p.boot keep = { p with devs := (p.bootAt keep p.waits.length).1, waits := [], off := false, fuse := none } := by
  unfold PM.boot PM.bootAt
  rw [List.take_length]
theorem PM.Ok.boot {p : PM} (hok : p.Ok) (keep : List Int) : (p.boot keep).Ok := by
  rw [PM.boot_eq]
  have hi := hok.bootInv keep p.waits.length (Nat.le_refl _)
  generalize p.bootAt keep p.waits.length = s at hi
  have back : ∀ (i : Nat) (d : Dev), s.1[i]? = some d → ∃ d0, p.devs[i]? = some d0 ∧ d.tape = d0.tape ∧ d.most = d0.most ∧ (d0.tape = false → d.has.length = d0.has.length) ∧ (d0.tape = true → d.has.length ≤ d0.has.length + cnt p.waits i) ∧ (∀ b ∈ d.has, b.length = 64) := fun i d hd => by
    have hlt := (List.getElem?_eq_some_iff.1 hd).1
    rw [hi.len] at hlt
    obtain ⟨d', h1, h2, h3, h4, _, h6, h7⟩ := hi.dev i _ (List.getElem?_eq_getElem hlt)
    rw [hd] at h1
    injection h1 with h1
    subst h1
    rw [List.take_length] at h6
    exact ⟨_, List.getElem?_eq_getElem hlt, h2, h3, h4, h6, h7⟩
  refine ⟨by rw [hi.len]; exact hok.n1, by rw [hi.len]; exact hok.n12, by rw [hi.len]; exact hok.shape, fun i d hd => ?_, fun i d hd => ?_, fun i d hd ht => ?_, fun i d hd ht => ?_, fun i d b hd hb => ?_, by simp, by simp, by simp, fun i d hd ht => by simp [cnt], hok.now, by simp [PM.fuseI]⟩
  · obtain ⟨d0, h0, h1, _⟩ := back i d hd
    rw [h1]; exact hok.tape i d0 h0
  · obtain ⟨d0, h0, _, h1, _⟩ := back i d hd
    rw [h1]; exact hok.most i d0 h0
  · obtain ⟨d0, h0, h1, h2, h3, _⟩ := back i d hd
    rw [h2, h3 (h1 ▸ ht)]; exact hok.disk i d0 h0 (h1 ▸ ht)
  · obtain ⟨d0, h0, h1, h2, _, h3, _⟩ := back i d hd
    have := h3 (h1 ▸ ht)
    have := hok.room i d0 h0 (h1 ▸ ht)
    rw [h2]
    simp [cnt]
    omega
  · obtain ⟨d0, _, _, _, _, _, h3⟩ := back i d hd
    exact h3 b hb
/-- Block b is a map from numbers, and has just these. -/
def EndMap (w : World) (b : Nat) (es : List Nat) : Prop :=
  ∃ D : DataW Unit, w.ownsMap Try.prog 3 (plainElem Try.prog 3) b es.length D ∧ ∀ j : Nat, (es.contains j = true → ∃ y, ∀ zd, D.atKey (.int .i64 (j : Int)) zd = y) ∧ (es.contains j = false → ∀ zd, D.atKey (.int .i64 (j : Int)) zd = zd)
theorem EndMap.made (w : World) : EndMap (w.alloc (.map #[] 0)) w.heap.size [] := ⟨.map [], World.ownsMap_made w _ _ _, fun j => ⟨fun h => by simp at h, fun _ zd => rfl⟩⟩
theorem EndMap.lt {w : World} {b : Nat} {es : List Nat} (h : EndMap w b es) : b < w.heap.size := by obtain ⟨D, h, _⟩ := h; exact h.lt
theorem EndMap.heap {w w' : World} {b : Nat} {es : List Nat} (h : EndMap w b es) (hk : w'.heap[b]? = w.heap[b]?) : EndMap w' b es := by
  obtain ⟨D, ⟨es, clock, hb, hr⟩, h2⟩ := h
  exact ⟨D, ⟨es, clock, hk.trans hb, hr⟩, h2⟩
theorem zeroInt (w : World) : (zeroValue 3).run Try.prog w = .ok (.int .i64 0) w := by
  have h : (Try.prog.info? 3).map (·.zero) = some (some (.int .i64 0)) := by kernel_rfl
  cases hi : Try.prog.info? 3 with
  | none => rw [hi] at h; cases h
  | some i =>
    rw [hi] at h
    simp only [Option.map_some, Option.some.injEq] at h
    simp [zeroValue, typeInfo, hi, h, program, Sem.run]
theorem EndMap.run_lookup {w : World} {b : Nat} {es : List Nat} (h : EndMap w b es) {j : Nat} (hj : j < 9223372036854775808) :
    ∃ v, (Instr.lookup 107 (.map (some b)) (.int .i64 (j : Int)) true).run Try.prog w = .ok (.tuple #[v, .bool (es.contains j)]) w := by
  obtain ⟨D, ⟨me, clock, hb, hF, _, rfl⟩, hat⟩ := h
  rcases Maps.fit_look true keyed Try.underlying107 (zeroInt w) hb hF (keyOf_nat hj) with ⟨hrun, _, ha⟩ | ⟨e0, y, _, _, hrun, _, ha, _⟩
  · refine ⟨.int .i64 0, hrun.trans ?_⟩
    cases hc : es.contains j with
    | false => rfl
    | true =>
      obtain ⟨y, hy⟩ := (hat j).1 hc
      have h1 := (ha (.lit (.int .i64 0))).symm.trans (hy _)
      have h2 := (ha (.lit (.int .i64 1))).symm.trans (hy _)
      exact absurd (h1.trans h2.symm) (by simp)
  · refine ⟨e0.val, hrun.trans ?_⟩
    cases hc : es.contains j with
    | true => rfl
    | false =>
      have hy := (hat j).2 hc
      have h1 := (ha (.lit (.int .i64 0))).symm.trans (hy _)
      have h2 := (ha (.lit (.int .i64 1))).symm.trans (hy _)
      exact absurd (h1.symm.trans h2) (by simp)
theorem EndMap.run_update {w : World} {b : Nat} {es : List Nat} (h : EndMap w b es) {j : Nat} (hj : j < 9223372036854775808) {q : Nat} (hq : q < 9223372036854775808) (hl : es.length ≤ 1000000000) :
    ∃ w', (Instr.mapUpdate 107 (.map (some b)) (.int .i64 (j : Int)) (.int .i64 (q : Int))).run Try.prog w = .ok () w' ∧ EndMap w' b (es ++ [j]) ∧ w.grownBy w' (some b) := by
  obtain ⟨D, ho, hat⟩ := h
  have hkk := keyOf_nat hj
  obtain ⟨w', hrun, ho', hg⟩ := ho.update keyed Try.underlying107 (by unfold maxLen; omega) hkk (plainElem_int Try.underlying3 (wf_nat hq))
  have hm : Maps.IsMap D := by obtain ⟨es, e, _⟩ := ho.entries keyed; exact ⟨es, e⟩
  have hlk : WideAt.IsKeyLit (.int .i64 (j : Int)) := keyed.key hkk
  refine ⟨w', hrun, ⟨_, by simpa using ho', fun i => ?_⟩, hg⟩
  have hcon : (es ++ [j]).contains i = (es.contains i || decide (i = j)) := by
    rw [Bool.eq_iff_iff]
    simp
  rw [hcon]
  by_cases e : i = j
  · subst e
    refine ⟨fun _ => ⟨_, fun zd => Maps.atKey_put_same hm hlk _ _⟩, fun h => by simp at h⟩
  · have hne : (Lit.int .i64 (i : Int)) ≠ .int .i64 (j : Int) := by
      intro h
      injection h with _ h
      omega
    simp only [e, decide_false, Bool.or_false]
    refine ⟨fun hc => ?_, fun hc zd => ?_⟩
    · obtain ⟨y, hy⟩ := (hat i).1 hc
      exact ⟨y, fun zd => (Maps.atKey_put_other hne _ _).trans (hy zd)⟩
    · exact (Maps.atKey_put_other hne _ _).trans ((hat i).2 hc zd)
section
variable {w : World} {ops : Array Oper} {rest : List Oper} {o : Oper} {a : Act} {Q : Exit → Act → World → Prop}
/-- 'm[k] = v' at a map of numbers. -/
theorem wpList_put_end (hg : o.guard = none) (m x v : Operand) (hop : o.op = .mapUpdate 107 m x v) (b : Nat) (es : List Nat) (j q : Nat)
    (hm : a.eval m = .map (some b)) (hx : a.eval x = .int .i64 (j : Int)) (hv : a.eval v = .int .i64 (q : Int)) (h : EndMap w b es) (hj : j < 9223372036854775808) (hq : q < 9223372036854775808) (hl : es.length ≤ 1000000000)
    (hK : ∀ w', EndMap w' b (es ++ [j]) → w.grownBy w' (some b) → wpList Try.prog ops Q rest (a.put o.dst undef) w') : wpList Try.prog ops Q (o :: rest) a w := by
  refine wpList_plain hg fun K' hK' => ?_
  obtain ⟨w', hrun, r1, r2⟩ := h.run_update hj hq hl
  unfold Oper.wp
  simp [execOp, hop, hm, hx, hv, hrun, Result.andThen]
  exact hK' _ _ (hK w' r1 r2)
end
theorem IAt.mods {w w' : World} {A : Option Addr} {zs : List Int} {B : Nat} {F : Nat → Prop} (h : IAt w A zs) (hm : Mods B F w w') (hB : w.heap.size ≤ B) (hn : zs ≠ [] → ∀ ad, A = some ad → ¬ F ad.block) : IAt w' A zs := by
  rcases h with h | ⟨ad, hA, hc⟩
  · exact .inl h
  · refine .inr ⟨ad, hA, fun k z hz => ?_⟩
    have hlt := cell_lt (hc k z hz)
    have hb : (ad.add k).block = ad.block := by unfold Addr.add; split <;> rfl
    have hk := hm.keep (ad.add k).block (Nat.lt_of_lt_of_le hlt hB) (by
      rw [hb]
      exact hn (by rintro rfl; simp at hz) ad hA)
    have := hc k z hz
    simp only [World.cell?] at this ⊢
    rw [hk]
    exact this
/-- A device's row turns: how many wait. -/
theorem DevsAt.zero {w : World} {F : Nat → Prop} {g n cap : Nat} {ds : List Dev} {wc wc' : Nat → Nat} (h : DevsAt w F (.slice (some ⟨g, 0, none⟩) n cap) ds wc) {j : Nat} (hj : j < ds.length) (h1 : wc' j = 0) (h2 : ∀ i, i ≠ j → wc' i = wc i) :
    DevsAt (w.setCell ⟨g, j * 5 + 4, none⟩ (.int .i64 0)) F (.slice (some ⟨g, 0, none⟩) n cap) ds wc' := by
  have hdj : ds[j]? = some ds[j] := List.getElem?_eq_getElem hj
  have ht := h.turn hdj 4 (by omega) (.int .i64 0) ds[j] h2 (fun m => by rw [h1]; rfl) rfl
  rwa [list_set_self hdj] at ht
end Go.Proofs.Ytomncfiklkhfjaa.Pl
