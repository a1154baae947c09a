/- Layer 15 (coldvol): a tape of any blocks, with the power on and no fuse. -/
import Derived.Test.YtloffgoenaomkaaDoorColTwo
import Derived.Test.YtloffgoenaomkaaDoorPlRot
namespace Go.Proofs.YtloffgoenaomkaaDoor.Col
open Go Go.RowKit Mem Pl Disk Crc _root_.Go.Proofs.YtloffgoenaomkaaDoor.Frame Hash Sha
theorem rot_low (p : PM) (i k at_ : Int) (x : UInt8) : (p.rot i k at_ x).1.steps = p.steps ∧ (p.rot i k at_ x).1.waits = p.waits := by
  unfold PM.rot
  split
  · exact ⟨rfl, rfl⟩
  · split
    · exact ⟨rfl, rfl⟩
    · split <;> exact ⟨rfl, rfl⟩
theorem rot_ok {p : PM} (h : p.Ok) (i k at_ : Int) (x : UInt8) : (p.rot i k at_ x).1.Ok := by
  unfold PM.rot
  cases hn : p.num i with
  | none => exact h
  | some j =>
    dsimp only
    cases hd : p.devs[j]? with
    | none => exact h
    | some d =>
      dsimp only
      split
      · rename_i hc
        have hj : j < p.devs.length := (List.getElem?_eq_some_iff.1 hd).1
        have back : ∀ (q : Nat) (e : Dev), (p.devs.set j { d with has := d.has.set k.toNat ((d.at_ k.toNat).set at_.toNat (((d.at_ k.toNat).getD at_.toNat 0) ^^^ x)) })[q]? = some e → (q = j ∧ e = { d with has := d.has.set k.toNat ((d.at_ k.toNat).set at_.toNat (((d.at_ k.toNat).getD at_.toNat 0) ^^^ x)) }) ∨ (q ≠ j ∧ p.devs[q]? = some e) := fun q e he => by
          by_cases hq : q = j
          · subst hq
            rw [List.getElem?_set_self hj] at he
            injection he with he
            exact .inl ⟨rfl, he.symm⟩
          · rw [List.getElem?_set_ne (fun e => hq e.symm)] at he
            exact .inr ⟨hq, he⟩
        have hl : ∀ z : Dev, (p.devs.set j z).length = p.devs.length := fun _ => List.length_set
        constructor
        · show 1 ≤ (p.devs.set _ _).length; rw [hl]; exact h.n1
        · show (p.devs.set _ _).length ≤ 12; rw [hl]; exact h.n12
        · show (p.devs.set _ _).length = _; rw [hl]; exact h.shape
        · intro q e he
          rcases back q e he with ⟨rfl, rfl⟩ | ⟨_, he⟩
          · exact h.tape _ d hd
          · exact h.tape q e he
        · intro q e he
          rcases back q e he with ⟨rfl, rfl⟩ | ⟨_, he⟩
          · exact h.most _ d hd
          · exact h.most q e he
        · intro q e he ht
          rcases back q e he with ⟨rfl, rfl⟩ | ⟨_, he⟩
          · show (d.has.set _ _).length = _
            rw [List.length_set]; exact h.disk _ d hd ht
          · exact h.disk q e he ht
        · intro q e he ht
          rcases back q e he with ⟨rfl, rfl⟩ | ⟨_, he⟩
          · show (d.has.set _ _).length + _ ≤ _
            rw [List.length_set]; exact h.room _ d hd ht
          · exact h.room q e he ht
        · intro q e b he hb
          rcases back q e he with ⟨rfl, rfl⟩ | ⟨_, he⟩
          · rcases List.mem_or_eq_of_mem_set hb with hb | hb
            · exact h.sec _ d b hd hb
            · rw [hb, List.length_set]; exact h.at_len hd _
          · exact h.sec q e b he hb
        · intro y hy; show _ < (p.devs.set _ _).length; rw [hl]; exact h.wdev y hy
        · exact h.wlen
        · intro y hy e he
          rcases back _ e he with ⟨hq, rfl⟩ | ⟨_, he⟩
          · exact h.wplace y hy d (hq ▸ hd)
          · exact h.wplace y hy e he
        · intro q e he ht
          rcases back q e he with ⟨rfl, rfl⟩ | ⟨_, he⟩
          · show _ = List.range' (d.has.set _ _).length _
            rw [List.length_set]; exact h.wtape _ d hd ht
          · exact h.wtape q e he ht
        · exact h.now
        · exact h.fuse
      · exact h
/-- Three numbers in a row. -/
abbrev Tri := Int × Int × Int
def TriAt (w : World) (q : Addr) (t : Tri) : Prop := w.cell? q = some (.int .i64 t.1) ∧ w.cell? ⟨q.block, q.off + 1, none⟩ = some (.int .i64 t.2.1) ∧ w.cell? ⟨q.block, q.off + 2, none⟩ = some (.int .i64 t.2.2)
def TrisAt (w : World) (A : Option Addr) (ts : List Tri) : Prop := ∀ i t, ts[i]? = some t → ∃ ad, A = some ad ∧ TriAt w (ad.add (i * 3)) t
theorem TrisAt.below {w w' : World} {A : Option Addr} {ts : List Tri} (h : TrisAt w A ts) (hb : Below w.heap.size w w') : TrisAt w' A ts := fun i t ht => by
  obtain ⟨ad, hA, h0, h1, h2⟩ := h i t ht
  exact ⟨ad, hA, (hb.cell (cell_lt h0)).trans h0, (hb.cell (cell_lt h1)).trans h1, (hb.cell (cell_lt h2)).trans h2⟩
/-- A plant, and a tape of it of at most so many blocks. -/
structure Rw (B : Nat) (w : World) (F : Nat → Prop) (a : Nat) (pm : PM) (n N m : Nat) : Prop where
  up : Up B w F a pm n
  tp : ∃ H ws, TapeP pm 0 N H ws ∧ H.length + ws.length ≤ m
section
variable {B : Nat} {w w1 w' : World} {F F' : Nat → Prop} {a n n' v N m m' : Nat} {pm pm' : PM}
theorem Rw.below (h : Rw B w F a pm n N m) (hb : Below w.heap.size w w') : Rw B w' F a pm n N m := ⟨h.up.below hb, h.tp⟩
theorem Rw.more (h : Rw B w F a pm n N m) (hn : n ≤ n') (hm : m ≤ m') : Rw B w F a pm n' N m' := ⟨h.up.more hn, by obtain ⟨H, ws, h1, h2⟩ := h.tp; exact ⟨H, ws, h1, by omega⟩⟩
theorem Rw.flo (h : Rw B w F a pm n N m) : ∀ g, F g → B ≤ g := fun g hg => (h.up.st.lt g hg).1
theorem Rw.append (h : Rw B w F a pm n N m) (hn : n ≤ 900000000) (hm : m < N) (A : Option Addr) (cap : Nat) (b : List UInt8) (hb : BAt w A b) (hl : b.length = 64) :
    Calls Tryd.prog 28 #[.pointer (some ⟨a, 0, none⟩), .int .i64 0, .slice A 64 cap] w fun e w' => ∃ F' pm' k, e = .returned (.tuple #[.int .i64 k, .int .i64 0]) ∧ Rw B w' F' a pm' (n + 1) N (m + 1) ∧ Below B w w' ∧ (∀ g t cs, Kp w F g t cs → Kp w' F' g t cs) := by
  obtain ⟨H, ws, ht, hle⟩ := h.tp
  refine (St.appended h.up.st ht h.up.bs (by omega) h.up.on (by omega) A cap b hb hl).mono ?_
  rintro e w' ⟨F', pm', hf, ⟨rfl, ht2, hon⟩ | ⟨_, _, hfz, _⟩⟩
  · exact ⟨F', pm', _, rfl, ⟨h.up.frm hf hon, H, _, ht2, by rw [List.length_append]; simp; omega⟩, hf.low h.flo h.up.bs, fun g t cs hk => hk.frm hf⟩
  · exact absurd h.up.fz hfz
theorem Rw.flush (h : Rw B w F a pm n N m) (hn : n ≤ 900000000) :
    Calls Tryd.prog 29 #[.pointer (some ⟨a, 0, none⟩), .int .i64 0] w fun e w' => ∃ F' pm', e = .returned (.int .i64 0) ∧ Rw B w' F' a pm' (n + 1) N m ∧ Below B w w' ∧ (∀ g t cs, Kp w F g t cs → Kp w' F' g t cs) := by
  obtain ⟨H, ws, ht, hle⟩ := h.tp
  refine (St.flushed h.up.st ht h.up.bs (by omega) h.up.on).mono ?_
  rintro e w' ⟨F', pm', hf, ⟨rfl, ht2, hon⟩ | ⟨_, _, hfz, _⟩⟩
  · exact ⟨F', pm', rfl, ⟨h.up.frm hf hon, _, _, ht2, by rw [List.length_append]; simpa using hle⟩, hf.low h.flo h.up.bs, fun g t cs hk => hk.frm hf⟩
  · exact absurd h.up.fz hfz
theorem Rw.rot (h : Rw B w F a pm n N m) (k at_ z : Int) :
    Calls Tryd.prog 30 #[.pointer (some ⟨a, 0, none⟩), .int .i64 0, .int .i64 k, .int .i64 at_, .int .i64 z] w fun e w' => ∃ v F' pm', e = .returned v ∧ Rw B w' F' a pm' n N m ∧ Below B w w' ∧ (∀ g t cs, Kp w F g t cs → Kp w' F' g t cs) := by
  obtain ⟨H, ws, ht, hle⟩ := h.tp
  refine (Pl.rot_any h.up.st.at_ h.up.st.ok 0 k at_ z).mono ?_
  rintro e w' ⟨rfl, hp, hm⟩
  obtain ⟨K, hK, ht2, ho, hf⟩ := ht.rot k at_ (Pl.byteOf z)
  obtain ⟨hl1, hl2⟩ := rot_low pm 0 k at_ (Pl.byteOf z)
  have hlow : Below B w w' := (hm.mono h.up.bs fun _ _ h => h).below fun q hq hF => by have := h.flo q hF; omega
  have hst : St B w' (Grow F w w') a (pm.rot 0 k at_ (Pl.byteOf z)).1 n := ⟨hp, rot_ok h.up.st.ok _ _ _ _, fun g hg => by
    rcases hg with hg | hg
    · exact ⟨(h.up.st.lt g hg).1, Nat.lt_of_lt_of_le (h.up.st.lt g hg).2 hm.size⟩
    · exact ⟨Nat.le_trans h.up.bs hg.1, hg.2⟩, by rw [hl1]; exact h.up.st.steps, by rw [hl2]; exact h.up.st.waits⟩
  exact ⟨_, _, _, rfl, ⟨⟨hst, ho.trans h.up.on, hf.trans h.up.fz, h.up.tb.below hlow, Nat.le_trans h.up.bs hm.size⟩, K, ws, ht2, by omega⟩, hlow, fun g t cs hk => ⟨hk.1.mods hm hk.1.lt hk.2, fun hg => hg.elim hk.2 fun h => by have := hk.1.lt; omega⟩⟩
theorem Rw.opened (h : Rw B w F a pm n N m) :
    Calls Tryd.prog 10 #[.pointer (some ⟨a, 0, none⟩), .int .i64 0] w fun e w' => Below w.heap.size w w' ∧ ∃ v, e = .returned (.tuple #[.pointer (some ⟨v, 0, none⟩), .int .i64 0]) ∧ Vb w' F v a 0 := by
  obtain ⟨H, ws, ht, _⟩ := h.tp
  have h3 := h.up.st.ok.tape 0 _ ht.dev
  have h4 : pm.disks.length ≤ 0 := by simpa using h3.symm
  have h5 := ht.lt
  have h6 := h.up.st.ok.shape
  refine (vopen_any 0 h.up.st.at_ h.up.st.ok).mono ?_
  rintro e w' ⟨hb, ⟨h, _⟩ | ⟨v, d, hd, _, _, rfl, hv, hvb⟩⟩
  · exact absurd ⟨by omega, by omega⟩ h
  · obtain rfl : d = 0 := by omega
    exact ⟨hb, v, rfl, hvb, fun hF => by have := (h.up.st.lt v hF).2; omega⟩
/-- What a call of 'Read' answers: an object of a size that may be, or none. -/
theorem Rw.read (h : Rw B w F a pm n N m) (hv : Vb w F v a 0) (hn : n ≤ 1000000000) (x y z : Int) (bad : Bool) (hyb : y < 9223372036854775808) :
    Calls Tryd.prog 12 #[.pointer (some ⟨v, 0, none⟩), placeV x y z bad] w fun e w' => Below w.heap.size w w' ∧
      (e = .returned (.tuple #[.string ⟨#[]⟩, .slice none 0 0, .int .i64 4]) ∨ ∃ s A k cap, k ≤ 512 ∧ e = .returned (.tuple #[.string s, .slice A k cap, .int .i64 0])) := by
  obtain ⟨H, ws, ht, _⟩ := h.tp
  have hvs := h.up.vs hv ht
  refine (vread_any hvs hn x y z bad hyb).mono ?_
  rintro e w' ⟨hb, ⟨_, rfl⟩ | ⟨id, A, k, cap, b, ho, rfl, hown⟩⟩
  · exact ⟨hb, .inl rfl⟩
  · refine ⟨hb, .inr ⟨_, A, k, cap, ?_, rfl⟩⟩
    unfold ansM at ho
    split at ho
    · split at ho
      · rename_i id' b' hob
        split at ho
        · injection ho with ho
          injection ho with h1 h2
          subst h2
          have := (objM_len hvs.sec hob).1
          have := hown.len
          omega
        · cases ho
      · cases ho
    · cases ho
theorem Rw.list (h : Rw B w F a pm n N m) (hv : Vb w F v a 0) (hn : n ≤ 1000000000) :
    Calls Tryd.prog 23 #[.pointer (some ⟨v, 0, none⟩)] w fun e w' => Below w.heap.size w w' ∧ ∃ A cap l, e = .returned (.slice A l.length cap) ∧ l.length ≤ 4096 ∧ (∀ o ∈ l, o.1 < 9223372036854775808) ∧
      Vec w' (fun g => w.heap.size ≤ g) 35 4 (.slice A l.length cap) l.length (placesV 0 l) := by
  obtain ⟨H, ws, ht, _⟩ := h.tp
  have hvs := h.up.vs hv ht
  refine (vlist_any hvs hn).mono ?_
  rintro e w' ⟨hb, A, cap, rfl, hvec⟩
  have hlen := hvs.len
  have hgo : ∀ (f p : Nat), ∀ o ∈ eachGo (H ++ ws) f p, o.1 < 9223372036854775808 := by
    intro f
    induction f with
    | zero => intro p o ho; cases ho
    | succ f ih =>
      intro p o ho
      unfold eachGo at ho
      split at ho
      · split at ho
        · cases ho
        · rcases List.mem_cons.1 ho with rfl | ho
          · show p < _
            omega
          · exact ih _ o ho
      · cases ho
  have h1 := eachGo_len (H ++ ws) ((H ++ ws).length + 1) 0
  exact ⟨hb, A, cap, _, rfl, by have : (eachM (H ++ ws)).length ≤ _ := h1; omega, hgo _ _, hvec⟩
theorem Rw.sealed (h : Rw B w F a pm n N m) (hv : Vb w F v a 0) (hn : n ≤ 900000000) :
    Calls Tryd.prog 14 #[.pointer (some ⟨v, 0, none⟩)] w fun e w' => Below B w w' ∧ (e = .returned (.int .i64 0) ∨ e = .returned (.int .i64 3)) := by
  obtain ⟨H, ws, ht, _⟩ := h.tp
  refine (vseal_any (h.up.vs hv ht) hn h.up.tb.kt (Nat.lt_of_lt_of_le h.up.tb.kB h.up.bs)).mono ?_
  rintro e w' (⟨_, rfl, hb⟩ | ⟨_, _, F', pm', hf, ⟨rfl, _⟩ | ⟨_, hfz, _⟩⟩)
  · exact ⟨hb.mono h.up.bs, .inr rfl⟩
  · exact ⟨hf.low h.flo h.up.bs, .inl rfl⟩
  · exact absurd h.up.fz hfz
theorem Rw.root (h : Rw B w F a pm n N m) (hv : Vb w F v a 0) (hn : n ≤ 1000000000) :
    Calls Tryd.prog 15 #[.pointer (some ⟨v, 0, none⟩)] w fun e w' => (∃ v, e = .returned v) ∧ Below w.heap.size w w' := by
  obtain ⟨H, ws, ht, _⟩ := h.tp
  exact (vroot_any (h.up.vs hv ht) hn).mono fun e w' ⟨he, hb⟩ => ⟨⟨_, he⟩, hb⟩
/-- The first append. -/
theorem Rw.of_up {os : List (Nat × List UInt8 × List UInt8)} {sd : Option (List UInt8)} (hu : Up B w F a pm n) (ht : TT pm 0 N os sd) (hm : lenT os sd ≤ m) : Rw B w F a pm n N m := by
  obtain ⟨H, ws, h1, h2⟩ := ht
  refine ⟨hu, H, ws, h1, ?_⟩
  rw [← List.length_append, h2.lenT]
  exact hm
end
end Go.Proofs.YtloffgoenaomkaaDoor.Col
/- Layer 15 (coldvol): rows of places: a law's argument, and behind one another. -/
namespace Go.Proofs.YtloffgoenaomkaaDoor.Col
open Go Go.RowKit Mem Pl Disk Crc _root_.Go.Proofs.YtloffgoenaomkaaDoor.Frame Hash Sha
/-- A place. -/
abbrev PlV := Int × Int × Int × Bool
def pvC (p : PlV) : List Value := [.int .i64 p.1, .int .i64 p.2.1, .int .i64 p.2.2.1, .bool p.2.2.2]
def flatP (l : List PlV) : List Value := (l.map pvC).flatten
theorem flatP_len (l : List PlV) : (flatP l).length = l.length * 4 := by
  unfold flatP
  rw [flat_len (size := 4) _ (fun r hr => by obtain ⟨x, _, rfl⟩ := List.mem_map.1 hr; rfl), List.length_map]
theorem flatP_append (l m : List PlV) : flatP (l ++ m) = flatP l ++ flatP m := by simp [flatP]
theorem flatP_one (l : List PlV) : ∀ u ∈ flatP l, u.oneCell' = true := fun u hu => by
  unfold flatP at hu
  obtain ⟨r, hr, hu⟩ := List.mem_flatten.1 hu
  obtain ⟨p, _, rfl⟩ := List.mem_map.1 hr
  simp [pvC] at hu
  rcases hu with rfl | rfl | rfl | rfl <;> rfl
theorem placesV_flatP (dev : Nat) (l : List (Nat × List UInt8 × List UInt8)) : placesV dev l = flatP (l.map fun x => ((dev : Int), (x.1 : Int), ((2 + dataN x.2.2.length : Nat) : Int), false)) := by
  unfold placesV flatP
  rw [List.map_map]
  rfl
/-- A row of places among the arguments. -/
def PlsV (W : World) (A : Option Addr) (l : List PlV) : Prop := (A = none → l = []) ∧ ∀ ad, A = some ad → ∀ j u, (flatP l)[j]? = some u → W.cell? (ad.add j) = some u
theorem PlsV.below {W w : World} {A : Option Addr} {l : List PlV} (h : PlsV W A l) (hb : Below W.heap.size W w) : PlsV w A l := ⟨h.1, fun ad hA j u hu => (hb.cell (cell_lt (h.2 ad hA j u hu))).trans (h.2 ad hA j u hu)⟩
/-- A place in a row. -/
theorem flatP_at {w : World} {F : Nat → Prop} {A : Option Addr} {n cap i : Nat} {l : List PlV} {p : PlV} (h : Vec w F 35 4 (.slice A n cap) n (flatP l)) (hp : l[i]? = some p) (hl : l.length = n) :
    ∃ g, A = some ⟨g, 0, none⟩ ∧ w.rangeAt g (i * 4) (pvC p) := by
  have hi := (List.getElem?_eq_some_iff.1 hp).1
  obtain ⟨g, hA⟩ : ∃ g, A = some ⟨g, 0, none⟩ := by
    obtain ⟨g1, cap', cur, he, _⟩ := h.form (by omega)
    injection he with he
    exact ⟨g1, he⟩
  subst hA
  refine ⟨g, rfl, h.range (i * 4) _ fun j u hu => ?_⟩
  have hj : j < 4 := (List.getElem?_eq_some_iff.1 hu).1
  unfold flatP
  rw [flat_get _ (fun r hr => by obtain ⟨x, _, rfl⟩ := List.mem_map.1 hr; rfl) i j (pvC p) (by rw [List.getElem?_map, hp]; rfl) hj]
  exact hu
section
variable {P : Program} {F : Nat → Prop} {w : World} {e : TypeId} {size n : Nat} {v : Value} {xs : List Value}
/-- 'append' of nothing. -/
theorem run_append_nil (t ty : TypeId) (bytes : Nat) (z : Value) (T : ElTy P t e size bytes z) (hv : Vec w F e size v n xs) (d : Nat) :
    (Builtin.append_ #[t, t] ty #[v, .slice none 0 d]).run P w = .ok v w := by
  obtain ⟨i, hi, hz, hs, hby⟩ := T.info
  have hcap : ∃ A cap, v = .slice A n cap ∧ n ≤ cap := by
    obtain ⟨A, cap, rfl, hlen, ⟨rfl, rfl⟩ | ⟨g, cur, rfl, hf, hh, hnc, hcm, hcs, htk⟩⟩ := hv
    · exact ⟨A, 0, rfl, Nat.le_refl _⟩
    · exact ⟨_, cap, rfl, hnc⟩
  obtain ⟨A, cap, rfl, hc⟩ := hcap
  rcases A with _ | ad
  · simp [Builtin.append_, run_underlying T.ht, sizeOf, typeInfo, hi, Builtin.lenOf, Builtin.firstCells, loadCells, loadCellsFrom, hc]
  · simp [Builtin.append_, run_underlying T.ht, sizeOf, typeInfo, hi, Builtin.lenOf, Builtin.firstCells, loadCells, loadCellsFrom, storeCells, hc]
theorem wpList_append_nil {ops : Array Oper} {rest : List Oper} {o : Oper} {a : Act} {Q : Exit → Act → World → Prop} (hgd : o.guard = none) (s x : Operand) (t : TypeId)
    (ho : o.op = .call { callee := .builtin .append, args := #[s, x], argTypes := #[t, t] }) (bytes : Nat) (z : Value) (T : ElTy P t e size bytes z)
    (hs : a.eval s = v) (hv : Vec w F e size v n xs) (d : Nat) (hx : a.eval x = .slice none 0 d) (h : wpList P ops Q rest (a.put o.dst v) w) : wpList P ops Q (o :: rest) a w :=
  wpList_plain hgd fun _ hK => by
    have hrun := run_append_nil (P := P) t o.type bytes z T hv d
    unfold Oper.wp execOp
    simp only [ho, resolve, invoke, builtin, Sem.run_bind, Sem.run_pure, Result.andThen_ok, List.map_toArray, List.map_cons, List.map_nil, hs, hx, hrun]
    exact hK _ _ h
end
/-- Places behind places. -/
theorem wpList_append_places {w : World} {F : Nat → Prop} {L : List PlV} {v : Value} {ops : Array Oper} {rest : List Oper} {o : Oper} {a : Act} {Q : Exit → Act → World → Prop} (hgd : o.guard = none) (s x : Operand)
    (ho : o.op = .call { callee := .builtin .append, args := #[s, x], argTypes := #[59, 59] }) (hs : a.eval s = v) (hv : Vec w F 35 4 v L.length (flatP L))
    (A : Option Addr) (m d : Nat) (l : List PlV) (hx : a.eval x = .slice A m d) (hl : l.length = m) (hp : PlsV w A l) (hm : L.length + m ≤ 4000000000000)
    (h : ∀ v' w', Vec w' (Grow F w w') 35 4 v' (L ++ l).length (flatP (L ++ l)) → Mods w.heap.size F w w' → wpList Tryd.prog ops Q rest (a.put o.dst v') w') : wpList Tryd.prog ops Q (o :: rest) a w := by
  rcases A with _ | ad
  · obtain rfl := hp.1 rfl
    obtain rfl : m = 0 := hl.symm
    refine wpList_append_nil hgd s x _ ho 32 _ placeTy hs hv d hx (h v w ?_ (Mods.refl _ _ _))
    rw [List.append_nil]
    exact hv.mono fun g _ hg => .inl hg
  · refine wpList_append_vec hgd s x _ ho 32 _ placeTy hs hv ad m d (flatP l) hx (by rw [flatP_len, hl]) (hp.2 ad rfl) (flatP_one l) (by unfold maxLen; omega) (by omega) fun v' w' row hv' hg hrow => h v' w' ?_ ?_
    · rw [List.length_append, hl, flatP_append]
      exact hv'
    · refine (Mods.refl w.heap.size F w).grown hg (Nat.le_refl _) fun g hg => ?_
      rcases hrow with h | ⟨g', cs, h, hk, _⟩
      · rw [h] at hg; cases hg
      · rw [h] at hg
        injection hg with hg
        exact .inl (hg ▸ hk)
theorem plsV_of_vec {w : World} {F : Nat → Prop} {A : Option Addr} {n cap : Nat} {l : List PlV} (h : Vec w F 35 4 (.slice A n cap) n (flatP l)) (hl : l.length = n) : PlsV w A l := by
  refine ⟨fun hA => ?_, fun ad hA j u hu => ?_⟩
  · subst hA
    by_cases h0 : 0 < n
    · obtain ⟨g, cap', cur, he, _⟩ := h.form h0
      injection he with he
      cases he
    · exact List.eq_nil_of_length_eq_zero (by omega)
  · subst hA
    obtain ⟨g, hg, hc⟩ := h.cell j u hu
    injection hg with hg
    subst hg
    rw [add_off]
    simpa using hc
end Go.Proofs.YtloffgoenaomkaaDoor.Col
