/- What is so of every plant stays so, whatever is called. No program. -/
import Derived.Test.YtomncfiklkhfjaaPlBootP
namespace Go.Proofs.Ytomncfiklkhfjaa.Pl
open Go Go.RowKit Mem
theorem newM_ok {zs1 zs2 : List Int} {p : PM} (h : newM zs1 zs2 = some p) : p.Ok ∧ p.Low ∧ p.steps = 0 ∧ p.waits = [] ∧ p.disks = zs1.map Int.toNat ∧ p.tapes = zs2.map Int.toNat ∧ p.off = false ∧ p.fuse = none ∧ (∀ z ∈ zs1 ++ zs2, 1 ≤ z ∧ z ≤ 4096) := by
  unfold newM at h
  split at h
  · cases h
  · rename_i hc
    injection h with h
    subst h
    have hall : ∀ z ∈ zs1 ++ zs2, 1 ≤ z ∧ z ≤ 4096 := fun z hz => by
      rcases Int.lt_or_le z 1 with h1 | h1
      · exact absurd (.inr (.inr (List.any_eq_true.2 ⟨z, hz, by simp; omega⟩))) hc
      · rcases Int.lt_or_le 4096 z with h2 | h2
        · exact absurd (.inr (.inr (List.any_eq_true.2 ⟨z, hz, by simp; omega⟩))) hc
        · exact ⟨h1, h2⟩
    have hn : zs1.length + zs2.length ≠ 0 ∧ zs1.length + zs2.length ≤ 12 := by omega
    have hl : (newDevs (zs1.map Int.toNat) (zs2.map Int.toNat)).length = zs1.length + zs2.length := by simp [newDevs]
    have hget : ∀ (i : Nat) (d : Dev), (newDevs (zs1.map Int.toNat) (zs2.map Int.toNat))[i]? = some d → (i < zs1.length ∧ ∃ z, (zs1 ++ zs2)[i]? = some z ∧ d = ⟨false, z.toNat, List.replicate z.toNat zeros⟩) ∨ (zs1.length ≤ i ∧ ∃ z, (zs1 ++ zs2)[i]? = some z ∧ d = ⟨true, z.toNat, []⟩) := fun i d hd => by
      unfold newDevs at hd
      rcases Nat.lt_or_ge i zs1.length with hi | hi
      · left
        rw [List.getElem?_append_left (by simpa using hi)] at hd
        rw [List.getElem?_append_left hi, List.getElem?_eq_getElem hi]
        simp [hi] at hd
        exact ⟨hi, _, rfl, hd.symm⟩
      · right
        rw [List.getElem?_append_right (by simpa using hi)] at hd
        rw [List.getElem?_append_right hi]
        simp only [List.length_map, List.getElem?_map, Option.map_eq_some_iff] at hd
        obtain ⟨n, ⟨z, hz, rfl⟩, rfl⟩ := hd
        exact ⟨hi, z, hz, rfl⟩
    refine ⟨⟨by rw [hl]; omega, by rw [hl]; omega, by rw [hl]; simp, fun i d hd => ?_, fun i d hd => ?_, fun i d hd ht => ?_, fun i d hd ht => ?_, fun i d b hd hb => ?_, by simp, by simp, by simp, fun i d hd ht => ?_, by simp, by simp [PM.fuseI]⟩, ⟨by simp, by simp⟩, rfl, rfl, rfl, rfl, rfl, rfl, hall⟩
    · rcases hget i d hd with ⟨hi, z, hz, rfl⟩ | ⟨hi, z, hz, rfl⟩
      · simp; omega
      · simp; omega
    · rw [← List.map_append, List.getElem?_map]
      rcases hget i d hd with ⟨hi, z, hz, rfl⟩ | ⟨hi, z, hz, rfl⟩
      · have := hall z (List.mem_of_getElem? hz)
        rw [hz]
        exact ⟨rfl, by show 1 ≤ z.toNat; omega, by show z.toNat ≤ 4096; omega⟩
      · have := hall z (List.mem_of_getElem? hz)
        rw [hz]
        exact ⟨rfl, by show 1 ≤ z.toNat; omega, by show z.toNat ≤ 4096; omega⟩
    · rcases hget i d hd with ⟨hi, z, hz, rfl⟩ | ⟨hi, z, hz, rfl⟩
      · simp
      · simp at ht
    · rcases hget i d hd with ⟨hi, z, hz, rfl⟩ | ⟨hi, z, hz, rfl⟩
      · simp at ht
      · simp [cnt]
    · rcases hget i d hd with ⟨hi, z, hz, rfl⟩ | ⟨hi, z, hz, rfl⟩
      · simp at hb
        rw [hb.2]; exact zeros_len
      · simp at hb
    · rcases hget i d hd with ⟨hi, z, hz, rfl⟩ | ⟨hi, z, hz, rfl⟩
      · simp at ht
      · simp [cnt]
/-- Only power, fuse, steps or clock are others. -/
theorem PM.Ok.same {p q : PM} (h : p.Ok) (h1 : q.disks = p.disks) (h2 : q.tapes = p.tapes) (h3 : q.devs = p.devs) (h4 : q.waits = p.waits) (h5 : q.now ≤ 1099511627776) (h6 : q.fuseI < 9223372036854775808) : q.Ok := by
  obtain ⟨a1, a2, a3, a4, a5, a6, a7, a8, a9, a10, a11, a12, _, _⟩ := h
  constructor
  all_goals first
    | exact h5
    | exact h6
    | (rw [h3]; first | exact a1 | exact a2)
    | (rw [h3, h1, h2]; exact a3)
    | (rw [h3, h1]; exact a4)
    | (rw [h3, h1, h2]; exact a5)
    | (rw [h3]; exact a6)
    | (rw [h3, h4]; exact a7)
    | (rw [h3]; exact a8)
    | (rw [h3, h4]; exact a9)
    | (rw [h4]; exact a10)
    | (rw [h3, h4]; exact a11)
    | (rw [h3, h4]; exact a12)
theorem PM.Ok.step {p : PM} (h : p.Ok) : p.step.1.Ok := by
  obtain ⟨h1, h2, h3, h4, h5⟩ := PM.step_same p
  refine h.same h1 h2 h3 h4 (by rw [h5]; exact h.now) ?_
  have := h.fuse
  unfold PM.step PM.fuseI at *
  cases hf : p.fuse with
  | none => rw [hf] at this; simp [hf]
  | some n =>
    rw [hf] at this
    cases n with
    | zero => simp
    | succ n => simp at this ⊢; omega
theorem PM.step_steps (p : PM) : p.step.1.steps ≤ p.steps + 1 ∧ p.step.1.waits = p.waits := by
  refine ⟨?_, (PM.step_same p).2.2.2.1⟩
  unfold PM.step
  split <;> simp
/-- A write more waits. -/
theorem PM.Ok.wait {p : PM} (h : p.Ok) {j k : Nat} {b : List UInt8} {d : Dev} (hd : p.devs[j]? = some d) (hb : b.length = 64) (hk : k < d.most) (ht : d.tape = true → k = d.has.length + cnt p.waits j ∧ d.has.length + cnt p.waits j < d.most) : PM.Ok { p with waits := p.waits ++ [⟨j, k, b⟩] } := by
  have hj : j < p.devs.length := (List.getElem?_eq_some_iff.1 hd).1
  refine ⟨h.n1, h.n12, h.shape, h.tape, h.most, h.disk, fun i e he hte => ?_, h.sec, fun x hx => ?_, fun x hx => ?_, fun x hx e he => ?_, fun i e he hte => ?_, h.now, h.fuse⟩
  · show e.has.length + cnt (p.waits ++ [⟨j, k, b⟩]) i ≤ e.most
    have := h.room i e he hte
    rw [cnt_snoc]
    show _ + (_ + if j = i then 1 else 0) ≤ _
    by_cases hi : j = i
    · subst hi
      rw [hd] at he
      injection he with he
      subst he
      have := ht hte
      rw [if_pos rfl]
      omega
    · rw [if_neg hi]
      omega
  · rcases List.mem_append.1 hx with hx | hx
    · exact h.wdev x hx
    · simp at hx; subst hx; exact hj
  · rcases List.mem_append.1 hx with hx | hx
    · exact h.wlen x hx
    · simp at hx; subst hx; exact hb
  · rcases List.mem_append.1 hx with hx | hx
    · exact h.wplace x hx e he
    · simp at hx; subst hx
      have e2 : some e = some d := he.symm.trans hd
      injection e2 with e2
      subst e2
      exact hk
  · show ((p.waits ++ [(⟨j, k, b⟩ : Wr)]).filter fun (x : Wr) => x.dev == i).map (fun (x : Wr) => x.place) = List.range' e.has.length (cnt (p.waits ++ [⟨j, k, b⟩]) i)
    have hw := h.wtape i e he hte
    rw [List.filter_append, List.map_append, hw, cnt_snoc]
    show _ = List.range' e.has.length (cnt p.waits i + if j = i then 1 else 0)
    by_cases hi : j = i
    · subst hi
      rw [hd] at he
      injection he with he
      subst he
      rw [if_pos rfl, List.range'_concat, (ht hte).1]
      simp
    · simp [hi]
theorem PM.Ok.give {p : PM} (h : p.Ok) {j k : Nat} {b : List UInt8} {d : Dev} (hd : p.devs[j]? = some d) (hb : b.length = 64) (hk : k < d.most) (ht : d.tape = true → k = d.has.length + cnt p.waits j ∧ d.has.length + cnt p.waits j < d.most) : (p.give j k b).1.Ok := by
  unfold PM.give
  obtain ⟨_, _, h3, h4, _⟩ := PM.step_same p
  split
  · refine h.step.wait (d := d) (by rw [h3]; exact hd) hb hk (by rw [h4]; exact ht)
  · exact h.step
theorem PM.give_low (p : PM) (j k : Nat) (b : List UInt8) : (p.give j k b).1.steps ≤ p.steps + 1 ∧ (p.give j k b).1.waits.length ≤ p.waits.length + 1 := by
  obtain ⟨h1, h2⟩ := PM.step_steps p
  unfold PM.give
  split
  · exact ⟨h1, by simp [h2]⟩
  · exact ⟨h1, by rw [h2]; omega⟩
theorem PM.Ok.write {p : PM} (h : p.Ok) (i k : Int) (b : List UInt8) : (p.write i k b).1.Ok := by
  unfold PM.write
  split
  · exact h
  · split
    · exact h
    · split
      · exact h
      · rename_i j hj d hd
        split
        · exact h
        · rename_i hc
          split
          · exact h
          · rename_i hl
            refine h.give hd (by omega) (by omega) (fun ht => absurd (.inl ht) hc)
theorem PM.write_low (p : PM) (i k : Int) (b : List UInt8) : (p.write i k b).1.steps ≤ p.steps + 1 ∧ (p.write i k b).1.waits.length ≤ p.waits.length + 1 := by
  have h0 : p.steps ≤ p.steps + 1 ∧ p.waits.length ≤ p.waits.length + 1 := by omega
  unfold PM.write
  split
  · exact h0
  · split
    · exact h0
    · split
      · exact h0
      · split
        · exact h0
        · split
          · exact h0
          · exact PM.give_low _ _ _ _
theorem PM.Ok.append {p : PM} (h : p.Ok) (i : Int) (b : List UInt8) : (p.append i b).1.Ok := by
  unfold PM.append
  split
  · exact h
  · split
    · exact h
    · split
      · exact h
      · rename_i j hj x d hd
        split
        · exact h
        · rename_i ht
          split
          · exact h
          · rename_i hl
            split
            · exact h
            · rename_i hs
              have ht2 : d.tape = true := by simpa using ht
              have hr := h.room j d hd ht2
              have hsz : d.size p.waits j = d.has.length + cnt p.waits j := by unfold Dev.size; rw [if_pos ht2]
              have hg : (p.give j (d.size p.waits j) b).1.Ok := h.give hd (by omega) (by omega) (fun _ => ⟨hsz, by omega⟩)
              split <;> exact hg
theorem PM.append_low (p : PM) (i : Int) (b : List UInt8) : (p.append i b).1.steps ≤ p.steps + 1 ∧ (p.append i b).1.waits.length ≤ p.waits.length + 1 := by
  have h0 : p.steps ≤ p.steps + 1 ∧ p.waits.length ≤ p.waits.length + 1 := by omega
  unfold PM.append
  split
  · exact h0
  · split
    · exact h0
    · split
      · exact h0
      · split
        · exact h0
        · split
          · exact h0
          · split
            · exact h0
            · split <;> exact PM.give_low _ _ _ _
theorem PM.Ok.setFuse {p : PM} (h : p.Ok) {n : Int} (hn : n < 9223372036854775808) : (p.setFuse n).Ok := by
  unfold PM.setFuse
  split
  · exact h
  · refine h.same rfl rfl rfl rfl h.now ?_
    unfold PM.fuseI
    by_cases h0 : n < 0
    · rw [if_pos h0]
      show (-1 : Int) < _
      omega
    · rw [if_neg h0]
      show ((n.toNat : Nat) : Int) < _
      omega
theorem PM.setFuse_low (p : PM) (n : Int) : (p.setFuse n).steps = p.steps ∧ (p.setFuse n).waits = p.waits := by
  unfold PM.setFuse
  split <;> exact ⟨rfl, rfl⟩
theorem fold_sec {j : Nat} : ∀ (xs : List Wr) (ds : List Dev), (∀ x ∈ xs, x.b.length = 64) → (∀ d ∈ ds, ∀ b ∈ d.has, b.length = 64) → ∀ d ∈ xs.foldl settle ds, ∀ b ∈ d.has, b.length = 64
  | [], ds, _, h => h
  | x :: xs, ds, hx, h => by
    rw [List.foldl_cons]
    refine fold_sec (j := j) xs (settle ds x) (fun y hy => hx y (by simp [hy])) fun d hd b hb => ?_
    cases hg : ds[x.dev]? with
    | none =>
      have e : settle ds x = ds := by
        unfold settle
        refine List.ext_getElem? fun q => ?_
        rw [List.getElem?_modify]
        by_cases hq : x.dev = q
        · subst hq; simp [hg]
        · simp [hq]
      rw [e] at hd
      exact h d hd b hb
    | some d0 =>
      rw [settle_get ds x hg] at hd
      rcases List.mem_or_eq_of_mem_set hd with hd | rfl
      · exact h d hd b hb
      · have h0 := h d0 (List.mem_of_getElem? hg)
        unfold Dev.settle at hb
        split at hb
        · rcases List.mem_append.1 hb with hb | hb
          · exact h0 b hb
          · simp at hb; rw [hb]; exact hx x (by simp)
        · rcases List.mem_or_eq_of_mem_set hb with hb | hb
          · exact h0 b hb
          · rw [hb]; exact hx x (by simp)
theorem PM.Ok.flushed {p : PM} (h : p.Ok) {j : Nat} (hj : j < p.devs.length) : PM.Ok { p with devs := (hit j p.waits).foldl settle p.devs, waits := flt j p.waits } := by
  have hd : p.devs[j]? = some p.devs[j] := List.getElem?_eq_getElem hj
  generalize p.devs[j] = d at hd
  obtain ⟨d', h1, h2, h3, h4, h5, h6⟩ := fold_hit (hit j p.waits) p.devs d (fun y hy => by simpa using (List.mem_filter.1 hy).2) hd
  have hcnt : (hit j p.waits).length = cnt p.waits j := by unfold hit cnt; rw [List.countP_eq_length_filter]
  have back : ∀ (i : Nat) (e : Dev), ((hit j p.waits).foldl settle p.devs)[i]? = some e → (i = j ∧ e = d') ∨ (i ≠ j ∧ p.devs[i]? = some e) := fun i e he => by
    by_cases hi : i = j
    · subst hi
      rw [h1] at he
      injection he with he
      exact .inl ⟨rfl, he.symm⟩
    · rw [h5 i hi] at he
      exact .inr ⟨hi, he⟩
  have hfc : ∀ i, i ≠ j → cnt (flt j p.waits) i = cnt p.waits i := fun i hi => by
    unfold cnt flt
    rw [List.countP_filter]
    refine List.countP_congr fun y _ => ?_
    cases h : (y.dev == i) with
    | false => simp
    | true =>
      have : y.dev = i := by simpa using h
      simp [this, hi]
  have hfj : cnt (flt j p.waits) j = 0 := by
    unfold cnt flt
    rw [List.countP_filter]
    refine List.countP_eq_zero.2 fun y _ => ?_
    cases h : (y.dev == j) <;> simp [h]
  have hmem : ∀ x ∈ flt j p.waits, x ∈ p.waits := fun x hx => (List.mem_filter.1 hx).1
  refine ⟨by rw [h6]; exact h.n1, by rw [h6]; exact h.n12, by rw [h6]; exact h.shape, fun i e he => ?_, fun i e he => ?_, fun i e he ht => ?_, fun i e he ht => ?_, fun i e b he hb => ?_, fun x hx => by rw [h6]; exact h.wdev x (hmem x hx), fun x hx => h.wlen x (hmem x hx), fun x hx e he => ?_, fun i e he ht => ?_, h.now, h.fuse⟩
  · rcases back i e he with ⟨rfl, rfl⟩ | ⟨_, he⟩
    · rw [h2]; exact h.tape _ d hd
    · exact h.tape i e he
  · rcases back i e he with ⟨rfl, rfl⟩ | ⟨_, he⟩
    · rw [h3]; exact h.most _ d hd
    · exact h.most i e he
  · rcases back i e he with ⟨rfl, rfl⟩ | ⟨_, he⟩
    · rw [h2] at ht
      rw [h4, h3, if_neg (by simp [ht])]; exact h.disk _ d hd ht
    · exact h.disk i e he ht
  · rcases back i e he with ⟨rfl, rfl⟩ | ⟨hi, he⟩
    · rw [h2] at ht
      have := h.room _ d hd ht
      show e.has.length + cnt (flt i p.waits) i ≤ _
      rw [hfj, h4, h3, if_pos ht]
      omega
    · show e.has.length + cnt (flt j p.waits) i ≤ _
      rw [hfc i hi]; exact h.room i e he ht
  · exact fold_sec (j := j) _ p.devs (fun x hx => h.wlen x (List.mem_filter.1 hx).1) (fun d hd b hb => by
      obtain ⟨i, hi, rfl⟩ := List.getElem_of_mem hd
      exact h.sec i _ b (List.getElem?_eq_getElem hi) hb) e (List.mem_of_getElem? he) b hb
  · rcases back x.dev e he with ⟨hxj, rfl⟩ | ⟨_, he⟩
    · rw [h3]; exact h.wplace x (hmem x hx) d (by rw [hxj]; exact hd)
    · exact h.wplace x (hmem x hx) e he
  · show ((flt j p.waits).filter fun x => x.dev == i).map (·.place) = List.range' e.has.length (cnt (flt j p.waits) i)
    rcases back i e he with ⟨rfl, rfl⟩ | ⟨hi, he⟩
    · rw [hfj]
      have : (flt i p.waits).filter (fun x => x.dev == i) = [] := List.filter_eq_nil_iff.2 fun y hy => by
        have := (List.mem_filter.1 hy).2
        simpa using this
      rw [this]
      rfl
    · rw [hfc i hi, ← h.wtape i e he ht]
      unfold flt
      rw [List.filter_filter]
      congr 1
      refine List.filter_congr fun y _ => ?_
      cases hy : (y.dev == i) with
      | false => simp
      | true =>
        have : y.dev = i := by simpa using hy
        simp [this, hi]
theorem PM.Ok.flush {p : PM} (h : p.Ok) (i : Int) : (p.flush i).1.Ok := by
  unfold PM.flush
  split
  · exact h
  · split
    · exact h
    · rename_i j hj
      split
      · obtain ⟨_, _, h3, h4, _⟩ := PM.step_same p
        have := h.step.flushed (j := j) (by rw [h3]; exact (PM.num_some hj).2)
        rw [h3, h4] at this
        exact this
      · exact h.step
theorem PM.flush_low (p : PM) (i : Int) : (p.flush i).1.steps ≤ p.steps + 1 ∧ (p.flush i).1.waits.length ≤ p.waits.length := by
  obtain ⟨h1, h2⟩ := PM.step_steps p
  unfold PM.flush
  split
  · exact ⟨Nat.le_succ _, Nat.le_refl _⟩
  · split
    · exact ⟨Nat.le_succ _, Nat.le_refl _⟩
    · split
      · exact ⟨h1, List.length_filter_le _ _⟩
      · exact ⟨h1, by rw [h2]; exact Nat.le_refl _⟩
theorem PM.boot_low (p : PM) (keep : List Int) : (p.boot keep).steps = p.steps ∧ (p.boot keep).waits = [] := ⟨rfl, rfl⟩
end Go.Proofs.Ytomncfiklkhfjaa.Pl
