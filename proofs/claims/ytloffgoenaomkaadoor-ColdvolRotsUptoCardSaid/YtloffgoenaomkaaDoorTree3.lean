/- Layer 5 (tree): a growing row of leaves. -/
import Derived.Test.YtloffgoenaomkaaDoorFold23
import Derived.Test.YtloffgoenaomkaaDoorFold2
import Derived.Test.YtloffgoenaomkaaDoorFold5
namespace Go.Proofs.YtloffgoenaomkaaDoor.Sha
open Go Go.RowKit Mem Pl Crc Hash
theorem hashesTy : ElTy Tryd.prog 110 44 32 32 (.agg (List.replicate 32 (Value.int .u8 0)).toArray) := ⟨Tryd.underlying110, by kernel_rfl, by kernel_rfl, by decide⟩
theorem run_cutT_h {P : Program} {t e : TypeId} {size bytes : Nat} {z : Value} (T : ElTy P t e size bytes z) (A : Option Addr) (n cap : Nat) (kh : IntKind) (H : Int) (h : Nat) (hH : H = (h : Int)) (hh : h ≤ cap) (W : World) :
    (Instr.sliceAt t (.slice A n cap) none (some (.int kh H)) none).run P W = .ok (.slice A h cap) W := by
  subst hH
  obtain ⟨i, hi, hz, hs, hby⟩ := T.info
  have hA : ¬ cap = 0 → A.map (fun x => x.add 0) = A := fun _ => add_zero_map A
  simp [Instr.sliceAt, Instr.slice, run_underlying T.ht, Instr.sliceBounds, run_sliceBound W kh (h : Int) cap .sliceAcap (by omega) (by omega), sizeOf, typeInfo, hi]
  intro hc
  exact hA hc
theorem fold_set : ∀ (l pre post : List Value), post.length = l.length → (l.zipIdx pre.length).foldl (fun (cs : Array Value) (x : Value × Nat) => cs.setIfInBounds x.2 x.1) (pre ++ post).toArray = (pre ++ l).toArray
  | [], pre, post, h => by
    have : post = [] := List.eq_nil_of_length_eq_zero h
    simp [this]
  | v :: l, pre, [], h => by simp at h
  | v :: l, pre, p :: post, h => by
    have e : ((pre ++ p :: post).toArray).setIfInBounds pre.length v = ((pre ++ [v]) ++ post).toArray := by
      rw [List.setIfInBounds_toArray]
      congr 1
      rw [List.set_append]
      simp
    rw [List.zipIdx_cons, List.foldl_cons]
    simp only [e]
    have := fold_set l (pre ++ [v]) post (by simpa using h)
    rw [List.length_append] at this
    rw [show pre.length + [v].length = pre.length + 1 from rfl] at this
    rw [this]
    simp
theorem fold_all (zs cs : Array Value) (h : zs.size = cs.size) : Array.foldl (fun (cs : Array Value) (x : Value × Nat) => cs.setIfInBounds x.2 x.1) zs (cs.zipIdx 0) 0 cs.size = cs := by
  have h1 := fold_set cs.toList [] zs.toList (by simpa using h)
  have e : (cs.zipIdx 0).size = cs.size := by simp
  have h2 : Array.foldl (fun (cs : Array Value) (x : Value × Nat) => cs.setIfInBounds x.2 x.1) zs (cs.zipIdx 0) 0 cs.size = (cs.zipIdx 0).toList.foldl (fun (cs : Array Value) (x : Value × Nat) => cs.setIfInBounds x.2 x.1) zs := by
    rw [← e, Array.foldl_toList]
  rw [h2, Array.toList_zipIdx]
  simpa using h1
theorem run_oneHash (bs : List UInt8) (h : bs.length = 32) (W : World) : (Instr.buildSlice 110 1 #[(0, .agg (cellsOf bs))]).run Tryd.prog W = .ok (.slice (some ⟨W.heap.size, 0, none⟩) 1 1) (W.alloc (.cells (cellsOf bs) 44)) := by
  obtain ⟨i, hi, hz, hs, hby⟩ := info_parts (show (Tryd.prog.info? 44).map (fun i => (i.zero, i.size, i.bytes)) = some (some (.agg (List.replicate 32 (Value.int .u8 0)).toArray), 32, 32) by kernel_rfl)
  have hsz : (cellsOf bs).size = 32 := by simp [cellsOf, h]
  simp [Instr.buildSlice, run_underlying Tryd.underlying110, sizeOf, typeInfo, hi, hs, zeroValue, hz, Instr.fill]
  have hc : (Value.agg (cellsOf bs)).cells = cellsOf bs := rfl
  rw [hc, hsz]
  rw [if_neg (by omega)]
  have hf := fun (zs : Array Value) (hz : zs.size = 32) => fold_all zs (cellsOf bs) (by rw [hsz]; exact hz)
  rw [hsz] at hf
  rw [hf _ (by simp)]
  simp [newRow, newObj]
  rfl
theorem wpList_oneHash {w : World} {ops : Array Oper} {rest : List Oper} {op : Oper} {a : Act} {Q : Exit → Act → World → Prop} (hgd : op.guard = none) (x : Operand) (ho : op.op = .buildSlice 110 1 #[(0, x)]) (bs : List UInt8) (hx : a.eval x = .agg (cellsOf bs)) (h32 : bs.length = 32)
    (h : wpList Tryd.prog ops Q rest (a.put op.dst (.slice (some ⟨w.heap.size, 0, none⟩) 1 1)) (w.alloc (.cells (cellsOf bs) 44))) : wpList Tryd.prog ops Q (op :: rest) a w := by
  refine wpList_plain hgd fun K hK => ?_
  have hr := run_oneHash bs h32 w
  unfold Oper.wp execOp
  simp only [ho, List.map_toArray, List.map_cons, List.map_nil, hx, hr, Sem.run_bind, Sem.run_pure, Result.andThen_ok]
  exact hK _ _ h
/-- How many ones a number has. -/
def pc (n : Nat) : Nat := if n = 0 then 0 else n % 2 + pc (n / 2)
theorem pc_eq (n : Nat) : pc n = n % 2 + pc (n / 2) := by
  by_cases h : n = 0
  · subst h
    rw [pc]
    simp
  · conv => lhs; rw [pc, if_neg h]
theorem pc_pos {n : Nat} (h : 0 < n) : 0 < pc n := by
  induction n using Nat.strongRecOn with
  | ind n ih =>
    rw [pc_eq]
    by_cases h2 : n % 2 = 1
    · omega
    · have := ih (n / 2) (by omega) (by omega)
      omega
/-- A leaf more. -/
def addGo (n : Nat) (ps : List (List UInt8)) (l : List UInt8) : List (List UInt8) :=
  if n % 2 = 1 then addGo (n / 2) ps.dropLast (nodeM (ps.getLastD []) l) else ps ++ [l]
def flatH (ps : List (List UInt8)) : List Value := ps.flatMap fun p => p.map B8
/-- Rows of 32 bytes in memory. -/
def HRow (w : World) (F : Nat → Prop) (v : Value) (ps : List (List UInt8)) : Prop := Vec w F 44 32 v ps.length (flatH ps) ∧ ∀ p ∈ ps, p.length = 32
/-- A growing row. -/
def GrowB (w : World) (F : Nat → Prop) (g n : Nat) (ps : List (List UInt8)) : Prop := ∃ v, Blk w g 134 #[.int .i64 (n : Int), v] ∧ HRow w F v ps ∧ ps.length = pc n
theorem newGrow_any (w : World) : Calls Tryd.prog 44 #[] w fun e w' => e = .returned (.pointer (some ⟨w.heap.size, 0, none⟩)) ∧ (∀ F, GrowB w' F w.heap.size 0 []) ∧ Below w.heap.size w w' := by
  have hb := below_al' (w := w) (.cells #[.int .i64 0, .slice none 0 0] 134)
  have hk := Blk.new w 134 #[.int .i64 0, .slice none 0 0]
  have HW := Lib.hid (⟨hb, hk⟩ : _ ∧ _)
  clear hb hk
  go_enter Tryd.func44, Tryd.ntmps44
  go_wp2_with fail
  go_ret
  exact ⟨rfl, fun F => ⟨_, HW.out.2, ⟨Vec.nil_ _ _ _ _ _, fun _ h => by cases h⟩, by rw [pc]; rfl⟩, HW.out.1⟩
theorem flatH_len (ps : List (List UInt8)) (h : ∀ p ∈ ps, p.length = 32) : (flatH ps).length = ps.length * 32 := by
  induction ps with
  | nil => rfl
  | cons p ps ih =>
    unfold flatH at *
    rw [List.flatMap_cons, List.length_append, ih (fun q hq => h q (List.mem_cons_of_mem _ hq)), List.length_map, h p (List.mem_cons_self ..), List.length_cons]
    omega
theorem flatH_get {ps : List (List UInt8)} (h : ∀ p ∈ ps, p.length = 32) {k : Nat} {p : List UInt8} (hk : ps[k]? = some p) : ∀ (j : Nat) (u : Value), (p.map B8)[j]? = some u → (flatH ps)[k * 32 + j]? = some u := fun j u hu => by
  have hj : j < 32 := by
    have h1 := (List.getElem?_eq_some_iff.1 hu).1
    rw [List.length_map, h p (List.mem_of_getElem? hk)] at h1
    exact h1
  have := flat_get (size := 32) (ps.map fun p => p.map B8) (fun r hr => by obtain ⟨q, hq, rfl⟩ := List.mem_map.1 hr; rw [List.length_map]; exact h q hq) k j (p.map B8) (by rw [List.getElem?_map, hk]; rfl) hj
  rw [hu] at this
  unfold flatH
  rw [List.flatMap_def]
  exact this
theorem flatH_take {ps : List (List UInt8)} (h : ∀ p ∈ ps, p.length = 32) (k : Nat) : (flatH ps).take (k * 32) = flatH (ps.take k) := by
  induction ps generalizing k with
  | nil => simp [flatH]
  | cons p ps ih =>
    cases k with
    | zero => simp [flatH]
    | succ k =>
      have hp : (p.map B8).length = 32 := by rw [List.length_map]; exact h p (List.mem_cons_self ..)
      have := ih (fun q hq => h q (List.mem_cons_of_mem _ hq)) k
      unfold flatH at *
      rw [List.take_succ_cons, List.flatMap_cons, List.flatMap_cons, List.take_append, hp, List.take_of_length_le (by rw [hp]; omega), show (k + 1) * 32 - 32 = k * 32 by omega, this]
theorem vec_take {w : World} {F : Nat → Prop} {e : TypeId} {size n c : Nat} {A : Option Addr} {xs : List Value} (h : Vec w F e size (.slice A n c) n xs) {k : Nat} (hk : k ≤ n) : Vec w F e size (.slice A k c) k (xs.take (k * size)) := by
  obtain ⟨A', c', he, hl, h1 | ⟨g, cur, hA, hf, hh, h1, h2, h3, h4⟩⟩ := h
  · injection he with e1 _ e2
    subst e1 e2
    exact ⟨A, c, rfl, by rw [List.length_take, hl]; have := Nat.mul_le_mul_right size hk; omega, .inl ⟨by omega, h1.2⟩⟩
  · injection he with e1 _ e2
    subst e1 e2
    have hle := Nat.mul_le_mul_right size hk
    exact ⟨A, c, rfl, by rw [List.length_take, hl]; omega, .inr ⟨g, cur, hA, hf, hh, by omega, h2, h3, by rw [← h4, List.take_take, Nat.min_eq_left hle]⟩⟩
/-- What a call on a growing row may write. -/
def Gset (F : Nat → Prop) (g : Nat) (x : Nat) : Prop := x = g ∨ F x
theorem GrowB.below {w w' : World} {F : Nat → Prop} {g n : Nat} {ps : List (List UInt8)} (h : GrowB w F g n ps) (hb : Below w.heap.size w w') : GrowB w' F g n ps := by
  obtain ⟨v, hk, hr, hp⟩ := h
  exact ⟨v, hk.below_ hb, ⟨hr.1.below hb, hr.2⟩, hp⟩
theorem GrowB.mono {w : World} {F G : Nat → Prop} {g n : Nat} {ps : List (List UInt8)} (h : GrowB w F g n ps) (hF : ∀ x, x < w.heap.size → F x → G x) : GrowB w G g n ps := by
  obtain ⟨v, hk, hr, hp⟩ := h
  exact ⟨v, hk, ⟨hr.1.mono hF, hr.2⟩, hp⟩
theorem _root_.Go.Proofs.YtloffgoenaomkaaDoor.Mem.Mods.below_g {w w' : World} {F : Nat → Prop} {g : Nat} (h : Mods w.heap.size (Gset F g) w w') (hg : g < w.heap.size) (hF : ∀ x, F x → g ≤ x) : Below g w w' :=
  (h.mono (Nat.le_of_lt hg) (G := Gset F g) fun _ _ h => h).below fun k hk hG => by
    rcases hG with h1 | h1
    · omega
    · have := hF k h1
      omega
def AddR (w : World) (F : Nat → Prop) (g n : Nat) (ps : List (List UInt8)) (l : List UInt8) (nv : Value) (wr : World) : Prop :=
  ∃ (n' : Nat) (ps' : List (List UInt8)) (l' : List UInt8) (v : Value), nv = .int .i64 (n' : Int) ∧ n' ≤ n ∧ pc (n + 1) = pc (n' + 1) ∧ ps'.length = pc n' ∧ addGo n ps l = addGo n' ps' l' ∧ l'.length = 32 ∧
    Blk wr g 134 #[.int .i64 (n : Int), v] ∧ (Vec wr (fun x => F x ∧ x < w.heap.size) 44 32 v ps'.length (flatH ps') ∧ ∀ p ∈ ps', p.length = 32) ∧ Blk wr w.heap.size 44 (cellsOf l') ∧ Mods w.heap.size (Gset F g) w wr
set_option maxRecDepth 100000 in
set_option maxHeartbeats 4000000 in
theorem add_any (w : World) (F : Nat → Prop) (g n : Nat) (ps : List (List UInt8)) (hF : ∀ x, F x → g ≤ x) (hg : GrowB w F g n ps) (hn : n ≤ 1000000) (l : List UInt8) (hl : l.length = 32) (hkt : Ktab w) (hgk : 1 < g) :
    Calls Tryd.prog 47 #[.pointer (some ⟨g, 0, none⟩), .agg (cellsOf l)] w fun e w' => e = .returned (.tuple #[]) ∧ GrowB w' (fun x => F x ∨ w.heap.size ≤ x) g (n + 1) (addGo n ps l) ∧ Mods w.heap.size (Gset F g) w w' := by
  obtain ⟨v, hk, hrow, hpc⟩ := hg
  have hglt := hk.lt
  have hsl : (cellsOf l).size = 32 := by simp [cellsOf, hl]
  have c0 := hk.cell 0
  simp at c0
  have hb1 := below_al' (w := w) (.cells (cellsOf l) 44)
  have HR0 : Hid (AddR w F g n ps l (.int .i64 (n : Int)) (w.alloc (.cells (cellsOf l) 44))) := Lib.hid
    ⟨n, ps, l, v, rfl, Nat.le_refl _, rfl, hpc, rfl, hl, hk.below_ hb1, ⟨(hrow.1.mono fun x hx h => ⟨h, hx⟩).below hb1, hrow.2⟩, Blk.new w 44 (cellsOf l), Mods.of_below hb1⟩
  have HKT := Lib.hid hkt
  clear hk hrow hpc hb1 hkt hl
  go_enter Tryd.func47, Tryd.ntmps47
  go_wp2_with fail
  clear c0
  generalize w.alloc (.cells (cellsOf l) 44) = w1 at *
  go_loopw [4] (fun nv wr => AddR w F g n ps l nv wr) (fun nv _ => (intOf nv).toNat)
  case atStart => exact HR0.out
  case round =>
    obtain ⟨n', ps', l', v', rfl, hn', hpc1, hpc2, hgo, hl', hk, hrow, hkl, hmo⟩ := hrel
    have HR := Lib.hid (⟨hpc1, hpc2, hgo, hl', hk, hrow, hkl, hmo⟩ : _ ∧ _ ∧ _ ∧ _ ∧ _ ∧ _ ∧ _ ∧ _)
    have c0 := hk.cell 0
    have c1 := hk.cell 1
    simp at c0 c1
    have hand := and_1 (n' : Int)
    clear hpc1 hgo hk hkl hmo
    by_cases hodd : n' % 2 = 1
    · have hmod : (n' : Int) % 2 = 1 := by omega
      have hpc3 := pc_eq n'
      obtain ⟨q, hq⟩ : ∃ q, n' / 2 = q := ⟨_, rfl⟩
      have hdiv : (n' : Int) / 2 = (q : Int) := by omega
      obtain ⟨k, hkl⟩ : ∃ k, ps'.length = k + 1 := ⟨ps'.length - 1, by omega⟩
      obtain ⟨p, hp⟩ : ∃ p, ps'[k]? = some p := ⟨_, List.getElem?_eq_getElem (by omega)⟩
      obtain ⟨gp, cap, cur, hv, hgp, hcur, hcap, _⟩ := hrow.1.form (by omega)
      subst hv
      rw [hkl] at c1
      have hvec := hrow.1
      rw [hkl] at hvec
      have hrng := hvec.range (k * 32) (p.map B8) (flatH_get hrow.2 hp)
      have hwk : IntKind.i64.wrap (((k + 1 : Nat) : Int) - 1) = (k : Int) := by rw [show ((k + 1 : Nat) : Int) - 1 = (k : Int) by omega]; exact IntWalk.i64_in _ (by have := hvec.le; unfold maxLen at this; omega)
      have hwk2 : IntKind.i64.wrap ((k : Int) + 1 - 1) = (k : Int) := by rw [show (k : Int) + 1 - 1 = (k : Int) by omega]; exact IntWalk.i64_in _ (by have := hvec.le; unfold maxLen at this; omega)
      have hwk3 : IntKind.i64.wrap (k : Int) = (k : Int) := IntWalk.i64_in _ (by have := hvec.le; unfold maxLen at this; omega)
      have hpl : p.length = 32 := hrow.2 p (List.mem_of_getElem? hp)
      have HRNG := Lib.hid hrng
      have HV := Lib.hid hvec
      have HP := Lib.hid (⟨hp, hkl, hpl, hpc3, hq⟩ : _ ∧ _ ∧ _ ∧ _ ∧ _)
      have hcut := fun W => run_cutT_h hashesTy (some ⟨gp, 0, none⟩) (k + 1) cap .i64 (k : Int) k rfl (by omega) W
      have HND := Lib.hid (node_any wr.drew p l' hpl hl' ((HKT.out.below (HR.out.2.2.2.2.2.2.2.below_g hglt hF) hgk).below (below_drewN (Below.refl wr.heap.size wr) 1) (by show _ < wr.heap.size; have := HR.out.2.2.2.2.1.lt; omega)) (by show _ < wr.heap.size; have := HR.out.2.2.2.2.1.lt; omega))
      have HODD := Lib.hid hodd
      have HGP := Lib.hid hgp.2
      clear hrng hvec hp hkl hpl hpc3 hq hpc2 hgp hcur hrow hodd
      go_wp2_with fail
      refine Ord.region_ord [] [0, 1, 2, 3, 4, 5, 6, 7, 8, 9] (by kernel_rfl) (by kernel_rfl) (by kernel_rfl) (by kernel_rfl) (Ord.ord_all [_, _, _, _, _, _, _, _, _, _] rfl (by kernel_rfl) ?_)
      go_wp2_with (first
        | (refine wpList_load_mid (op := ⟨some 27, _, _, _, _, _⟩) rfl 44 (.tmp 26) rfl gp (k * 32) rfl (p.map B8) _ (show World.rangeAt _ _ _ _ from HRNG.out) hashTy rfl (by rw [hash_size, List.length_map, HP.out.2.2.1]) ?_)
        | (refine wpList_load_hash (op := ⟨some 28, _, _, _, _, _⟩) rfl (.tmp 3) rfl w.heap.size _ l' rfl (HR.out.2.2.2.2.2.2.1.drew) hl' ?_))
      refine HND.out.mono ?_
      rintro e w2 ⟨rfl, hb2⟩
      have hb2' : Below wr.heap.size wr w2 := (show Below wr.heap.size wr wr.drew from below_drewN (Below.refl _ _) 1).trans hb2
      have HW2 := Lib.hid (⟨HR.out.2.2.2.2.1.below_ hb2', HV.out.below hb2', HR.out.2.2.2.2.2.2.1.below_ hb2', HR.out.2.2.2.2.2.2.2.then_below hb2' HR.out.2.2.2.2.2.2.2.size⟩ : _ ∧ _ ∧ _ ∧ _)
      clear hb2 hb2' HND c0 c1
      go_wp2_with
        (refine wpList_store_hash rfl (.tmp 3) (.tmp 29) rfl w.heap.size _ l' (nodeM p l') rfl rfl HW2.out.2.2.1 hl' (nodeM_len p l') ?_
         intro w3 hk3 hg3 hz3)
      have hgne : g ≠ w.heap.size := Nat.ne_of_lt hglt
      have hkg3 : Blk w3 g 134 #[.int .i64 (n : Int), .slice (some ⟨gp, 0, none⟩) (k + 1) cap] := by
        have := HW2.out.1.grown hg3 (by intro e; injection e with e; exact hgne e)
        rwa [HP.out.2.1] at this
      have hgpl := HGP.out
      have hv3 : Vec w3 (fun x => F x ∧ x < w.heap.size) 44 32 (.slice (some ⟨gp, 0, none⟩) (k + 1) cap) (k + 1) (flatH ps') := by
        obtain ⟨A1, c1, he, hl1, h1 | ⟨x, cur, hA1, hF1, hh1, hr1⟩⟩ := HW2.out.2.1
        · exact ⟨A1, c1, he, hl1, .inl h1⟩
        · exact ⟨A1, c1, he, hl1, .inr ⟨x, cur, hA1, hF1, (hg3.block x (Array.getElem?_eq_some_iff.1 hh1).1 (by intro e; injection e with e; have := hF1.2; omega)).trans hh1, hr1⟩⟩
      have c1' := hkg3.cell 1
      simp at c1'
      have f1' := hkg3.frozen 1
      have hks := hkg3.set_ 1 (.slice (some ⟨gp, 0, none⟩) k cap)
      have hks' : Blk (w3.setCell ⟨g, 1, none⟩ (.slice (some ⟨gp, 0, none⟩) k cap)) g 134 #[.int .i64 (n : Int), .slice (some ⟨gp, 0, none⟩) k cap] := by simpa using hks
      have hvs := (vec_take hv3 (Nat.le_succ k)).far hkg3 (p := ⟨g, 1, none⟩) (by decide) (.slice (some ⟨gp, 0, none⟩) k cap)
      have hmo3 := (HW2.out.2.2.2.grown hg3 HW2.out.2.2.2.size (fun x e => by injection e with e; subst e; exact .inr (Nat.le_refl _))).setCell (p := ⟨g, 1, none⟩) (.inl (.inl rfl)) (.slice (some ⟨gp, 0, none⟩) k cap)
      have HS := Lib.hid (⟨hks', hvs, hk3.far (p := ⟨g, 1, none⟩) (Ne.symm hgne) (.slice (some ⟨gp, 0, none⟩) k cap), hmo3⟩ : _ ∧ _ ∧ _ ∧ _)
      clear hks hks' hvs hmo3 hk3 hg3 hz3 hkg3 hv3
      refine Ord.nx_end ?_
      go_wp2_with fail
      go_roundw
      case rel =>
        obtain ⟨hp, hkl, hpl, hpc3, hq⟩ := HP.out
        obtain ⟨hpc1, hpc2, hgo, hl1, hk1, hrow1, _, _⟩ := HR.out
        have hdl : ps'.dropLast = ps'.take k := by rw [List.dropLast_eq_take, hkl]; rfl
        have hgl : ps'.getLastD [] = p := by
          rw [List.getLastD_eq_getLast?, List.getLast?_eq_getElem?, hkl, Nat.add_sub_cancel, hp]
          rfl
        refine ⟨q, ps'.take k, nodeM p l', .slice (some ⟨gp, 0, none⟩) k cap, rfl, by omega, ?_, ?_, ?_, nodeM_len _ _, HS.out.1, ⟨?_, fun x hx => hrow1.2 x (List.mem_of_mem_take hx)⟩, HS.out.2.2.1, HS.out.2.2.2⟩
        · rw [hpc1, pc_eq (n' + 1)]
          have h1 : (n' + 1) % 2 = 0 := by omega
          have h2 : (n' + 1) / 2 = q + 1 := by omega
          rw [h1, h2, Nat.zero_add]
        · rw [List.length_take, hkl]
          have := HODD.out
          rw [hq, this] at hpc3
          omega
        · rw [hgo]
          conv => lhs; rw [addGo, if_pos HODD.out, hq, hdl, hgl]
        · rw [List.length_take, hkl, Nat.min_eq_left (Nat.le_succ k), ← flatH_take hrow1.2]
          exact HS.out.2.1
      case measure =>
        have := HODD.out
        have := HP.out.2.2.2.2
        simp [intOf]
        omega
    · have hmod : ¬ (n' : Int) % 2 = 1 := by omega
      have hev : n' % 2 = 0 := by omega
      have HEV := Lib.hid hev
      obtain ⟨AV, cV, hv⟩ := hrow.1.shape
      subst hv
      have HV := Lib.hid hrow.1
      have hvle := hrow.1.le
      have hlen6 : ps'.length ≤ 1000001 := by
        rw [hpc2]
        have : ∀ m, pc m ≤ m := fun m => by
          induction m using Nat.strongRecOn with
          | ind m ih =>
            rw [pc_eq]
            by_cases h0 : m = 0
            · subst h0; rw [pc]; simp
            · have := ih (m / 2) (by omega)
              omega
        have := this n'
        omega
      have HBN := Lib.hid (Blk.new wr.drew 44 (cellsOf l'))
      have hVA : Vec (wr.drew.alloc (.cells (cellsOf l') 44)) (fun x => F x ∧ x < w.heap.size) 44 32 (.slice AV ps'.length cV) ps'.length (flatH ps') := (Vec.drew hrow.1).alloc _
      have HVA := Lib.hid hVA
      have hkA := (HR.out.2.2.2.2.1.drew).alloc (.cells (cellsOf l') 44)
      have hmA := (HR.out.2.2.2.2.2.2.2.drew).alloc HR.out.2.2.2.2.2.2.2.size (.cells (cellsOf l') 44)
      have HA := Lib.hid (⟨hkA, hmA⟩ : _ ∧ _)
      clear hVA hkA hmA hev hodd hpc2 hrow
      go_wp2_with fail
      refine Ord.region_ord [] [0, 1, 2, 3, 4, 5, 6, 7, 8, 9, 10] (by kernel_rfl) (by kernel_rfl) (by kernel_rfl) (by kernel_rfl) (Ord.ord_all [_, _, _, _, _, _, _, _, _, _, _] rfl (by kernel_rfl) ?_)
      go_wp2_with (first
        | (refine wpList_load_hash (op := ⟨some 44, _, _, _, _, _⟩) rfl (.tmp 3) rfl w.heap.size _ l' rfl (HR.out.2.2.2.2.2.2.1.drew) hl' ?_)
        | (refine wpList_oneHash (op := ⟨some 45, _, _, _, _, _⟩) rfl (.tmp 44) rfl l' rfl hl' ?_)
        | (refine wpList_append_vec rfl (.tmp 43) (.tmp 45) _ rfl 32 _ hashesTy rfl HVA.out ⟨wr.heap.size, 0, none⟩ 1 1 (l'.map B8) rfl (by rw [List.length_map, hl']) (blk_news HBN.out) (by intro u hu; obtain ⟨x, _, rfl⟩ := List.mem_map.1 hu; rfl) ?c1 ?c2 ?_
           case c1 => unfold maxLen; omega
           case c2 => omega
           intro v5 w5 row hv5 hg5 hrow5
           obtain ⟨A5, c5, hve5⟩ := hv5.shape
           subst hve5
           have hk5 := HA.out.1.grown hg5 (fun e => by
             rcases hrow5 with h0 | ⟨x, cs, h0, _, h1⟩
             · rw [h0] at e; cases e
             · rw [h0] at e
               injection e with e
               subst e
               have h2 : (wr.drew.alloc (.cells (cellsOf l') 44)).heap[g]? = some (.cells #[.int .i64 (n : Int), .slice AV ps'.length cV] 134 (0, 0)) := HA.out.1
               have h3 := h1.symm.trans h2
               injection h3 with h3
               injection h3 with _ h3
               exact absurd h3 (by decide))
           have HV5 := Lib.hid hv5
           have HM5 : Hid (Mods w.heap.size (Gset F g) w w5) := Lib.hid (HA.out.2.grown hg5 HA.out.2.size (fun x e => by
             rcases hrow5 with h0 | ⟨y, cs, h0, hy, h1⟩
             · rw [h0] at e; cases e
             · rw [h0] at e
               injection e with e
               subst e
               exact .inl (.inr hy.1)))
           have hs5 := hg5.size
           have HK5 := Lib.hid hk5
           have c1' := hk5.cell 1
           have c0' := hk5.cell 0
           simp at c1' c0'
           have f1' := hk5.frozen 1
           have f0' := hk5.frozen 0
           clear hv5 hg5 hrow5 hk5))
      have hwn : IntKind.i64.wrap ((n : Int) + 1) = ((n + 1 : Nat) : Int) := by rw [show (n : Int) + 1 = ((n + 1 : Nat) : Int) by omega]; exact IntWalk.i64_in _ (by omega)
      refine Ord.nx_end ?_
      go_wp2_with fail
      refine bodyPost_end (results_none rfl _ _ _) rfl ⟨rfl, ?_, ?_⟩
      · obtain ⟨hpc1, hpc2, hgo, hl1, hk1, hrow1, _, _⟩ := HR.out
        have hk6 := (HK5.out.set_ 1 (.slice A5 (ps'.length + 1) c5)).set_ 0 (.int .i64 ((n + 1 : Nat) : Int))
        have hgo2 : addGo n ps l = ps' ++ [l'] := by
          rw [hgo, addGo, if_neg (by have := HEV.out; omega)]
        rw [hgo2]
        refine ⟨.slice A5 (ps'.length + 1) c5, by simpa using hk6, ⟨?_, fun p hp => ?_⟩, ?_⟩
        · have hv6 := (HV5.out.mono (G := fun x => F x ∨ w.heap.size ≤ x) fun x _ hx => by
            rcases hx with hx | hx
            · exact .inl hx.1
            · have h1 := hx.1
              have h2 := HR.out.2.2.2.2.2.2.2.size
              simp only [World.size_alloc] at h1
              have h3 : wr.drew.heap.size = wr.heap.size := rfl
              exact .inr (by omega))
          have hv7 := (hv6.far HK5.out (p := ⟨g, 1, none⟩) (by decide) (.slice A5 (ps'.length + 1) c5)).far (HK5.out.set_ 1 (.slice A5 (ps'.length + 1) c5)) (p := ⟨g, 0, none⟩) (by decide) (.int .i64 ((n + 1 : Nat) : Int))
          have e1 : (ps' ++ [l']).length = ps'.length + 1 := by simp
          have e2 : flatH (ps' ++ [l']) = flatH ps' ++ l'.map B8 := by simp [flatH]
          rw [e1, e2]
          exact hv7
        · rcases List.mem_append.1 hp with hp | hp
          · exact hrow1.2 p hp
          · rw [List.mem_singleton.1 hp]
            exact hl1
        · rw [List.length_append, hpc2, hpc1, pc_eq (n' + 1), pc_eq n']
          have := HEV.out
          have h1 : (n' + 1) / 2 = n' / 2 := by omega
          rw [h1]
          simp
          omega
      · exact (HM5.out.setCell (p := ⟨g, 1, none⟩) (.inl (.inl rfl)) _).setCell (p := ⟨g, 0, none⟩) (.inl (.inl rfl)) _
end Go.Proofs.YtloffgoenaomkaaDoor.Sha
