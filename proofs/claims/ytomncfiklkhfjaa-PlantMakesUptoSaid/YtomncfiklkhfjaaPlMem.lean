/- A plant in memory: its block, its shape, its devices with a map of sectors each, what waits. No function is walked here. -/
import Derived.Test.YtomncfiklkhfjaaVec
import Derived.Test.YtomncfiklkhfjaaPlModel
import Derived.Maps.OwnOps
import Derived.Maps.RangeWalk
namespace Go.Proofs.Ytomncfiklkhfjaa.Pl
open Go Go.RowKit Mem
theorem cellsOf_inj {a b : List UInt8} (h : cellsOf a = cellsOf b) : a = b := by
  unfold cellsOf at h
  injection h with h
  exact (List.map_inj_right (fun x y e => by unfold B8 at e; injection e with _ e; exact V8_inj.1 e)).1 h
/-- How a sector's cells read. -/
noncomputable def secR (v : Value) : Option (DataW Unit × List MemPlace) :=
  open Classical in if h : ∃ bs : List UInt8, bs.length = 64 ∧ v = .agg (cellsOf bs) then some (.lit (.string (Classical.choose h)), []) else none
theorem secR_mk {bs : List UInt8} (h : bs.length = 64) : secR (.agg (cellsOf bs)) = some (.lit (.string bs), []) := by
  have hx : ∃ b : List UInt8, b.length = 64 ∧ Value.agg (cellsOf bs) = .agg (cellsOf b) := ⟨bs, h, rfl⟩
  unfold secR
  rw [dif_pos hx]
  have e := (Classical.choose_spec hx).2
  injection e with e
  rw [← cellsOf_inj e]
theorem secR_inv {v : Value} {z : DataW Unit × List MemPlace} (h : secR v = some z) : ∃ bs : List UInt8, bs.length = 64 ∧ v = .agg (cellsOf bs) ∧ z = (.lit (.string bs), []) := by
  unfold secR at h
  split at h
  · rename_i hx
    injection h with h
    exact ⟨_, (Classical.choose_spec hx).1, (Classical.choose_spec hx).2, h.symm⟩
  · cases h
theorem keyed : Maps.Keyed Try.prog 3 := Maps.int_keyed Try.underlying3
theorem wf_nat {k : Nat} (h : k < 9223372036854775808) : (Lit.int .i64 (k : Int)).wf = true := WalkArith.wf_i64 (by omega)
theorem keyOf_nat {k : Nat} (h : k < 9223372036854775808) : keyOf Try.prog 3 (.int .i64 (k : Int)) = some (.int .i64 (k : Int)) := Maps.keyOf_int_mk Try.underlying3 (wf_nat h)
/-- Numbers below n, none of them twice. -/
theorem pigeon : ∀ (n : Nat) (l : List Nat), l.Nodup → (∀ x ∈ l, x < n) → l.length ≤ n
  | 0, l, _, h => by
    cases l with
    | nil => simp
    | cons x l => exact absurd (h x (by simp)) (by omega)
  | n + 1, l, hn, h => by
    have h1 := pigeon n (l.filter fun x => x != n) (hn.filter _) (fun x hx => by
      have h2 := List.mem_filter.1 hx
      have h3 := h x h2.1
      have h4 : x ≠ n := by simpa using h2.2
      omega)
    have h2 : l.length = (l.filter fun x => x != n).length + l.countP fun x => decide ¬(x != n) = true := by
      rw [← List.countP_eq_length_filter]
      exact List.length_eq_countP_add_countP _
    have h3 : (l.countP fun x => decide ¬(x != n) = true) ≤ 1 := by
      have : (l.countP fun x => decide ¬(x != n) = true) = l.count n := by
        unfold List.count
        refine List.countP_congr fun x _ => ?_
        simp
      rw [this]
      exact List.nodup_iff_count.1 hn n
    omega
/-- Block b is a map from numbers to sectors; f is what is there (noughts, if nothing). -/
def SecMap (w : World) (b : Nat) (f : Nat → List UInt8) : Prop :=
  ∃ D : DataW Unit, w.ownsMap Try.prog 3 secR b 4096 D ∧ (∀ k, Maps.has D k = true → ∃ j : Nat, j < 4096 ∧ k = .int .i64 (j : Int)) ∧ ∀ j : Nat, D.atKey (.int .i64 (j : Int)) (.lit (.string zeros)) = .lit (.string (f j))
theorem SecMap.lt {w : World} {b : Nat} {f : Nat → List UInt8} (h : SecMap w b f) : b < w.heap.size := by obtain ⟨D, h, _⟩ := h; exact h.lt
theorem SecMap.obj {w : World} {b : Nat} {f : Nat → List UInt8} (h : SecMap w b f) : ∃ es clock, w.heap[b]? = some (.map es clock) := by
  obtain ⟨D, ⟨es, clock, hb, _⟩, _⟩ := h
  exact ⟨es, clock, hb⟩
theorem SecMap.heap {w w' : World} {b : Nat} {f : Nat → List UInt8} (h : SecMap w b f) (hk : w'.heap[b]? = w.heap[b]?) : SecMap w' b f := by
  obtain ⟨D, ⟨es, clock, hb, hr⟩, h2⟩ := h
  exact ⟨D, ⟨es, clock, hk.trans hb, hr⟩, h2⟩
theorem SecMap.mods {w w' : World} {b : Nat} {f : Nat → List UInt8} {B : Nat} {F : Nat → Prop} (h : SecMap w b f) (hm : Mods B F w w') (hB : b < B) (hF : ¬ F b) : SecMap w' b f := h.heap (hm.keep b hB hF)
theorem SecMap.ext {w : World} {b : Nat} {f g : Nat → List UInt8} (h : SecMap w b f) (e : ∀ j, f j = g j) : SecMap w b g := by
  have : f = g := funext e
  rwa [← this]
theorem SecMap.made (w : World) : SecMap (w.alloc (.map #[] 0)) w.heap.size fun _ => zeros :=
  ⟨.map [], (World.ownsMap_made w _ _ _).mono (Nat.zero_le _), fun k hk => by simp [Maps.has] at hk, fun j => rfl⟩
theorem SecMap.made_at (w : World) (n : Nat) (hn : w.heap.size = n) : SecMap (w.alloc (.map #[] 0)) n fun _ => zeros := by subst hn; exact SecMap.made w
theorem zeroSec (w : World) : (zeroValue 102).run Try.prog w = .ok (.agg (cellsOf zeros)) w := by
  have h : (Try.prog.info? 102).map (·.zero) = some (some (.agg (cellsOf zeros))) := by kernel_rfl
  cases hi : Try.prog.info? 102 with
  | none => rw [hi] at h; cases h
  | some i =>
    rw [hi] at h
    simp only [Option.map_some, Option.some.injEq] at h
    simp [zeroValue, typeInfo, hi, h, program, Sem.run]
theorem SecMap.run_lookup {w : World} {b : Nat} {f : Nat → List UInt8} (h : SecMap w b f) {k : Nat} (hk : k < 9223372036854775808) :
    (Instr.lookup 95 (.map (some b)) (.int .i64 (k : Int)) false).run Try.prog w = .ok (.agg (cellsOf (f k))) w ∧ (f k).length = 64 := by
  obtain ⟨D, ho, _, hat⟩ := h
  obtain ⟨v, ps, hrun, hv⟩ := ho.lookup keyed Try.underlying95 (zeroSec w) (secR_mk zeros_len) (keyOf_nat hk)
  rw [hat k] at hv
  obtain ⟨bs, h64, rfl, he⟩ := secR_inv hv
  injection he with he _
  injection he with he
  injection he with he
  rw [he]
  exact ⟨hrun, h64⟩
theorem SecMap.run_update {w : World} {b : Nat} {f : Nat → List UInt8} (h : SecMap w b f) {k : Nat} (hk : k < 4096) {bs : List UInt8} (hb : bs.length = 64) :
    ∃ w', (Instr.mapUpdate 95 (.map (some b)) (.int .i64 (k : Int)) (.agg (cellsOf bs))).run Try.prog w = .ok () w' ∧ SecMap w' b (fun j => if j = k then bs else f j) ∧ w.grownBy w' (some b) := by
  obtain ⟨D, ho, hkeys, hat⟩ := h
  have hkk := keyOf_nat (k := k) (by omega)
  obtain ⟨w', hrun, ho', hg⟩ := ho.update keyed Try.underlying95 (by unfold maxLen; omega) hkk (secR_mk hb)
  have hm : Maps.IsMap D := by obtain ⟨es, e, _⟩ := ho.entries keyed; exact ⟨es, e⟩
  have hlk : WideAt.IsKeyLit (.int .i64 (k : Int)) := keyed.key hkk
  have hkeys' : ∀ x, Maps.has (D.put (.int .i64 (k : Int)) (.lit (.string bs))) x = true → ∃ j : Nat, j < 4096 ∧ x = .int .i64 (j : Int) := fun x hx => by
    by_cases e : x = .int .i64 (k : Int)
    · exact ⟨k, hk, e⟩
    · rw [Maps.has_put_other e] at hx
      exact hkeys x hx
  refine ⟨w', hrun, ⟨_, ?_, hkeys', fun j => ?_⟩, hg⟩
  · obtain ⟨es, clock, hh, F, _, hD⟩ := ho'
    refine ⟨es, clock, hh, F, ?_, hD⟩
    have hl : es.size = (((es.toList.map (WideElems.rg Try.prog 3 secR)).foldr DataW.insert []).length) := by rw [length_sorted]; simp
    have ho2 : w'.ownsMap Try.prog 3 secR b es.size (D.put (.int .i64 (k : Int)) (.lit (.string bs))) := ⟨es, clock, hh, F, Nat.le_refl _, hD⟩
    obtain ⟨l, hl1, hap, hlits⟩ := ho2.entries keyed
    have hll : l = (es.toList.map (WideElems.rg Try.prog 3 secR)).foldr DataW.insert [] := by
      rw [hl1] at hD
      injection hD
    rw [hl, ← hll]
    have hin : ∀ p ∈ l, ∃ j : Nat, j < 4096 ∧ p.1 = .int .i64 (j : Int) := fun p hp => hkeys' p.1 (by
      rw [hl1, Maps.has_eq, List.any_eq_true]
      exact ⟨p, hp, WideAt.sameKey_self (hlits p hp)⟩)
    have := pigeon 4096 (l.map fun p => match p.1 with | .int _ n => n.toNat | _ => 0) (by
      refine List.pairwise_map.2 (List.Pairwise.imp_of_mem (fun {a b} ha hb hne => ?_) hap)
      obtain ⟨i, _, hi⟩ := hin a ha
      obtain ⟨j, _, hj⟩ := hin b hb
      rw [hi, hj] at hne ⊢
      simp at hne ⊢
      omega) (fun x hx => by
      obtain ⟨p, hp, rfl⟩ := List.mem_map.1 hx
      obtain ⟨j, hj, e⟩ := hin p hp
      rw [e]
      simpa using hj)
    simpa using this
  · by_cases e : j = k
    · subst e
      rw [Maps.atKey_put_same hm hlk]
      simp
    · rw [Maps.atKey_put_other (by
        intro h
        injection h with _ h
        omega), hat j]
      simp [e]
/-- A device's cells: how many of its blocks wait is handed in. -/
def devRow (d : Dev) (m wc : Nat) : List Value := [.bool d.tape, .int .i64 (d.most : Int), .map (some m), .int .i64 ((if d.tape then d.has.length else 0 : Nat) : Int), .int .i64 (wc : Int)]
def devRows (wc : Nat → Nat) : Nat → List Dev → List Nat → List (List Value)
  | i, d :: ds, m :: ms => devRow d m (wc i) :: devRows wc (i + 1) ds ms
  | _, _, _ => []
theorem devRows_len (wc : Nat → Nat) : ∀ (i : Nat) (ds : List Dev) (ms : List Nat), ms.length = ds.length → (devRows wc i ds ms).length = ds.length
  | i, [], ms, h => by simp [devRows]
  | i, d :: ds, [], h => by simp at h
  | i, d :: ds, m :: ms, h => by simp [devRows]; exact devRows_len wc (i + 1) ds ms (by simpa using h)
theorem devRows_five (wc : Nat → Nat) : ∀ (i : Nat) (ds : List Dev) (ms : List Nat), ∀ r ∈ devRows wc i ds ms, r.length = 5
  | i, [], ms, r, h => by simp [devRows] at h
  | i, d :: ds, [], r, h => by simp [devRows] at h
  | i, d :: ds, m :: ms, r, h => by
    simp [devRows] at h
    rcases h with rfl | h
    · rfl
    · exact devRows_five wc (i + 1) ds ms r h
theorem devRows_get (wc : Nat → Nat) : ∀ (i : Nat) (ds : List Dev) (ms : List Nat) (k : Nat) (d : Dev) (m : Nat), ds[k]? = some d → ms[k]? = some m → (devRows wc i ds ms)[k]? = some (devRow d m (wc (i + k)))
  | i, [], ms, k, d, m, h, _ => by simp at h
  | i, d0 :: ds, [], k, d, m, _, h => by simp at h
  | i, d0 :: ds, m0 :: ms, 0, d, m, h, h' => by simp at h h'; subst h h'; rfl
  | i, d0 :: ds, m0 :: ms, k + 1, d, m, h, h' => by
    simp at h h'
    have := devRows_get wc (i + 1) ds ms k d m h h'
    simp only [devRows, List.getElem?_cons_succ]
    rw [this, show i + 1 + k = i + (k + 1) by omega]
theorem devRows_set (wc wc' : Nat → Nat) (d : Dev) : ∀ (i : Nat) (ds : List Dev) (ms : List Nat) (k m : Nat), k < ds.length → ms[k]? = some m → (∀ j, j ≠ i + k → wc' j = wc j) →
    devRows wc' i (ds.set k d) ms = (devRows wc i ds ms).set k (devRow d m (wc' (i + k)))
  | i, [], ms, k, m, h, _, _ => by simp at h
  | i, d0 :: ds, [], k, m, _, h, _ => by simp at h
  | i, d0 :: ds, m0 :: ms, 0, m, h, h', hw => by
    simp at h'
    subst h'
    simp only [List.set_cons_zero, devRows, Nat.add_zero, List.cons.injEq, true_and]
    have : ∀ (j : Nat) (ds : List Dev) (ms : List Nat), i < j → devRows wc' j ds ms = devRows wc j ds ms := by
      intro j ds
      induction ds generalizing j with
      | nil => intro ms _; simp [devRows]
      | cons d ds ih =>
        intro ms hj
        cases ms with
        | nil => simp [devRows]
        | cons m ms => simp only [devRows, hw j (by omega), ih (j + 1) ms (by omega)]
    exact this (i + 1) ds ms (by omega)
  | i, d0 :: ds, m0 :: ms, k + 1, m, h, h', hw => by
    simp at h h'
    simp only [List.set_cons_succ, devRows, hw i (by omega)]
    rw [devRows_set wc wc' d (i + 1) ds ms k m h h' (fun j hj => hw j (by omega)), show i + 1 + k = i + (k + 1) by omega]
theorem devRows_snoc (wc : Nat → Nat) (d : Dev) (m : Nat) : ∀ (i : Nat) (ds : List Dev) (ms : List Nat), ms.length = ds.length → devRows wc i (ds ++ [d]) (ms ++ [m]) = devRows wc i ds ms ++ [devRow d m (wc (i + ds.length))]
  | i, [], [], _ => by simp [devRows]
  | i, [], _ :: _, h => by simp at h
  | i, _ :: _, [], h => by simp at h
  | i, d0 :: ds, m0 :: ms, h => by
    simp only [List.cons_append, devRows, List.length_cons]
    rw [devRows_snoc wc d m (i + 1) ds ms (by simpa using h), show i + 1 + ds.length = i + (ds.length + 1) by omega]
/-- The devices: rows behind the slice V, and a map for each. -/
def DevsAt (w : World) (F : Nat → Prop) (V : Value) (ds : List Dev) (wc : Nat → Nat) : Prop :=
  ∃ ms : List Nat, Vec w F 97 5 V ds.length (devRows wc 0 ds ms).flatten ∧ ms.length = ds.length ∧ ms.Nodup ∧ ∀ (i : Nat) (d : Dev) (m : Nat), ds[i]? = some d → ms[i]? = some m → SecMap w m d.at_ ∧ F m
def wrRow (x : Wr) : List Value := .int .i64 (x.dev : Int) :: .int .i64 (x.place : Int) :: x.b.map B8
/-- What waits. -/
def WaitsAt (w : World) (F : Nat → Prop) (W : Value) (ws : List Wr) : Prop := Vec w F 104 66 W ws.length (ws.map wrRow).flatten
def natV (n : Nat) : Value := .int .i64 (n : Int)
def wcOf (p : PM) (i : Nat) : Nat := if (p.devs[i]?).any (·.tape) then cnt p.waits i else 0
def plCells (D T V W : Value) (p : PM) : List Value := [D, T, V, W, .bool p.off, .int .i64 p.fuseI, .int .i64 (p.steps : Int), .int .i64 (p.now : Int)]
/-- A plant at block a, in blocks of F; wc: how many blocks of each device are said to wait. -/
structure PlantB (w : World) (F : Nat → Prop) (a : Nat) (p : PM) (wc : Nat → Nat) (D T V W : Value) : Prop where
  blk : Blk w a 93 (plCells D T V W p).toArray
  own : F a
  disks : Vec w F 3 1 D p.disks.length (p.disks.map natV)
  tapes : Vec w F 3 1 T p.tapes.length (p.tapes.map natV)
  devs : DevsAt w F V p.devs wc
  waits : WaitsAt w F W p.waits
def PlantAt (w : World) (F : Nat → Prop) (a : Nat) (p : PM) : Prop := ∃ D T V W, PlantB w F a p (wcOf p) D T V W
section
variable {w w' : World} {F G : Nat → Prop} {V W : Value} {ds : List Dev} {wc : Nat → Nat} {ws : List Wr} {a : Nat} {p : PM}
theorem DevsAt.mono (h : DevsAt w F V ds wc) (hF : ∀ g, g < w.heap.size → F g → G g) : DevsAt w G V ds wc := by
  obtain ⟨ms, h1, h2, h3, h4⟩ := h
  exact ⟨ms, h1.mono hF, h2, h3, fun i d m hd hm => ⟨(h4 i d m hd hm).1, hF m (h4 i d m hd hm).1.lt (h4 i d m hd hm).2⟩⟩
theorem DevsAt.mods {B : Nat} (h : DevsAt w F V ds wc) (hm : Mods B G w w') (hn : ∀ g, g < w.heap.size → F g → g < B ∧ ¬ G g) : DevsAt w' F V ds wc := by
  obtain ⟨ms, h1, h2, h3, h4⟩ := h
  refine ⟨ms, h1.mods hm hn, h2, h3, fun i d m hd hm' => ?_⟩
  obtain ⟨h5, h6⟩ := h4 i d m hd hm'
  obtain ⟨h7, h8⟩ := hn m h5.lt h6
  exact ⟨h5.mods hm h7 h8, h6⟩
/-- Blocks of cells of another type, and new ones, may turn. -/
theorem DevsAt.heap (h : DevsAt w F V ds wc) (hk : ∀ (g : Nat) (cs : Array Value), w.heap[g]? = some (Obj.cells cs 97 (0, 0)) → w'.heap[g]? = some (Obj.cells cs 97 (0, 0)))
    (hm : ∀ (g : Nat) (es : Array MapEntry) (c : Nat), w.heap[g]? = some (Obj.map es c) → w'.heap[g]? = some (Obj.map es c)) : DevsAt w' F V ds wc := by
  obtain ⟨ms, h1, h2, h3, h4⟩ := h
  refine ⟨ms, h1.heap hk, h2, h3, fun i d m hd hm' => ?_⟩
  obtain ⟨h5, h6⟩ := h4 i d m hd hm'
  obtain ⟨es, c, he⟩ := h5.obj
  exact ⟨h5.heap ((hm m es c he).trans he.symm), h6⟩
theorem PlantB.mono {D T : Value} (h : PlantB w F a p wc D T V W) (hF : ∀ g, g < w.heap.size → F g → G g) : PlantB w G a p wc D T V W :=
  ⟨h.blk, hF a h.blk.lt h.own, h.disks.mono hF, h.tapes.mono hF, h.devs.mono hF, h.waits.mono hF⟩
theorem PlantB.mods {B : Nat} {D T : Value} (h : PlantB w F a p wc D T V W) (hm : Mods B G w w') (hn : ∀ g, g < w.heap.size → F g → g < B ∧ ¬ G g) : PlantB w' F a p wc D T V W :=
  ⟨h.blk.mods hm (hn a h.blk.lt h.own).1 (hn a h.blk.lt h.own).2, h.own, h.disks.mods hm hn, h.tapes.mods hm hn, h.devs.mods hm hn, h.waits.mods hm hn⟩
theorem PlantAt.mono (h : PlantAt w F a p) (hF : ∀ g, g < w.heap.size → F g → G g) : PlantAt w G a p := by
  obtain ⟨D, T, V, W, h⟩ := h
  exact ⟨D, T, V, W, h.mono hF⟩
theorem PlantAt.mods {B : Nat} (h : PlantAt w F a p) (hm : Mods B G w w') (hn : ∀ g, g < w.heap.size → F g → g < B ∧ ¬ G g) : PlantAt w' F a p := by
  obtain ⟨D, T, V, W, h⟩ := h
  exact ⟨D, T, V, W, h.mods hm hn⟩
theorem PlantAt.below (h : PlantAt w F a p) (hb : Below w.heap.size w w') : PlantAt w' F a p :=
  h.mods (Mods.of_below (F := fun _ => False) hb) fun g hg _ => ⟨hg, fun x => x⟩
theorem PlantAt.lt (h : PlantAt w F a p) : a < w.heap.size := by obtain ⟨D, T, V, W, h⟩ := h; exact h.blk.lt
end
end Go.Proofs.Ytomncfiklkhfjaa.Pl
