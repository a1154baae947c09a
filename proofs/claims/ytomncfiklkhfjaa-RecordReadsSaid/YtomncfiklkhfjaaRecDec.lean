/- Records out of bytes, in plain terms; and what the reading of one has in memory. -/
import Derived.Test.YtomncfiklkhfjaaRecRead
import Derived.Test.YtomncfiklkhfjaaOwnG
namespace Go.Proofs.Ytomncfiklkhfjaa.Rec
open Go.RowKit Mem Crc _root_.Go.Proofs.Ytomncfiklkhfjaa.Frame
/-- A copy's place out of five bytes. -/
def cpyOf (bs : List UInt8) : Cpy := ⟨(bs.getD 0 0).toNat, be ((bs.drop 1).take 2), (bs.getD 3 0).toNat, (bs.getD 4 0).toNat == 1⟩
/-- So many copies out of bytes, and what is left. -/
def copiesM : Nat → List UInt8 → Option (List Cpy × List UInt8)
  | 0, bs => some ([], bs)
  | k + 1, bs => if 5 ≤ bs.length ∧ (bs.getD 4 0).toNat < 2 then (copiesM k (bs.drop 5)).map fun x => (cpyOf bs :: x.1, x.2) else none
theorem take32_len (bs : List UInt8) (h : 32 ≤ bs.length) : (bs.take 32).length = 32 := List.length_take_of_le h
/-- A record of these parts. -/
def recOf (id : List UInt8) (bs : List UInt8) (l : List Cpy) (h : 46 ≤ bs.length) : R :=
  ⟨id, be (bs.take 2), (bs.drop 2).take 32, be ((bs.drop 34).take 4), be ((bs.drop 38).take 6), (bs.getD 44 0).toNat % 2 == 1, (bs.getD 44 0).toNat / 2 % 2 == 1, l, take32_len _ (by simp; omega)⟩
/-- What is behind the id. -/
def restM (id rest : List UInt8) : Option R :=
  if h : 46 ≤ rest.length ∧ (rest.getD 44 0).toNat < 4 then
    match copiesM (rest.getD 45 0).toNat (rest.drop 46) with
    | some (l, []) => if (recOf id rest l h.1).may then some (recOf id rest l h.1) else none
    | _ => none
  else none
/-- P11.3: a record out of bytes. -/
def decodeM (bs : List UInt8) : Option R := restM ((bs.drop 1).take (bs.getD 0 0).toNat) (bs.drop (1 + (bs.getD 0 0).toNat))
theorem restM_short {id rest : List UInt8} (h : ¬ (46 ≤ rest.length ∧ (rest.getD 44 0).toNat < 4)) : restM id rest = none := by unfold restM; rw [dif_neg h]
theorem restM_none {id rest : List UInt8} (h : copiesM (rest.getD 45 0).toNat (rest.drop 46) = none) : restM id rest = none := by
  unfold restM
  split
  · rw [h]
  · rfl
theorem restM_left {id rest : List UInt8} {l : List Cpy} {c : UInt8} {r : List UInt8} (h : copiesM (rest.getD 45 0).toNat (rest.drop 46) = some (l, c :: r)) : restM id rest = none := by
  unfold restM
  split
  · rw [h]
  · rfl
theorem restM_some {id rest : List UInt8} {l : List Cpy} (h : 46 ≤ rest.length ∧ (rest.getD 44 0).toNat < 4) (hl : copiesM (rest.getD 45 0).toNat (rest.drop 46) = some (l, [])) :
    restM id rest = if (recOf id rest l h.1).may then some (recOf id rest l h.1) else none := by
  unfold restM
  rw [dif_pos h, hl]
/-- The cells of copies. -/
def cpyCells (l : List Cpy) : List Value := (l.map Cpy.cells).flatten
theorem cpyCells_len (l : List Cpy) : (cpyCells l).length = l.length * 4 := by
  induction l with
  | nil => rfl
  | cons c r ih => simp [cpyCells, Cpy.cells] at ih ⊢; omega
theorem cpyCells_get (l : List Cpy) : ∀ (k j : Nat) (c : Cpy), l[k]? = some c → j < 4 → (cpyCells l)[k * 4 + j]? = c.cells[j]? := by
  induction l with
  | nil => intro k j c h; simp at h
  | cons d r ih =>
    intro k j c h hj
    have e : cpyCells (d :: r) = d.cells ++ cpyCells r := by simp [cpyCells]
    have hd : d.cells.length = 4 := rfl
    rw [e]
    cases k with
    | zero =>
      simp at h
      subst h
      rw [Nat.zero_mul, Nat.zero_add, List.getElem?_append_left (by omega)]
    | succ k =>
      rw [List.getElem?_append_right (by omega), show (k + 1) * 4 + j - d.cells.length = k * 4 + j by omega]
      exact ih k j c (by simpa using h) hj
theorem cpyCells_snoc (l : List Cpy) (c : Cpy) : cpyCells (l ++ [c]) = cpyCells l ++ c.cells := by simp [cpyCells]
theorem cpyTy : ElTy Try.prog 24 82 4 32 (.agg #[.int .i64 0, .int .i64 0, .int .i64 0, .bool false]) := ⟨Try.underlying24, by kernel_rfl, rfl, by decide⟩
theorem own_cat {w : World} {base : Nat} {C : Option Addr} {n cap : Nat} {l : List Cpy} (h : OwnG w base 82 4 C n cap (cpyCells l)) : CAt w C l := fun k c hk => by
  have g := fun (j : Nat) (hj : j < 4) (v : Value) (hv : c.cells[j]? = some v) => h.cell (k * 4 + j) v (by rw [cpyCells_get l k j c hk hj]; exact hv)
  obtain ⟨a, rfl, h0⟩ := g 0 (by decide) _ rfl
  obtain ⟨_, e1, h1⟩ := g 1 (by decide) _ rfl
  obtain ⟨_, e2, h2⟩ := g 2 (by decide) _ rfl
  obtain ⟨_, e3, h3⟩ := g 3 (by decide) _ rfl
  injection e1 with e1; injection e1 with e1; subst e1
  injection e2 with e2; injection e2 with e2; subst e2
  injection e3 with e3; injection e3 with e3; subst e3
  refine ⟨⟨a, 0, none⟩, rfl, ?_, ?_, ?_, ?_⟩ <;> rw [add_off] <;> simp only [Nat.zero_add]
  · exact h0
  · exact h1
  · exact h2
  · exact h3
/-! ### A record's cells, one turned -/
section
variable (r : R) (C : Option Addr) (cap : Nat)
theorem set_id (id : List UInt8) : (r.cells C cap).toArray.setIfInBounds 0 (.string (S8 id)) = (({ r with id := id } : R).cells C cap).toArray := by simp [R.cells]
theorem set_len (l : Int) : (r.cells C cap).toArray.setIfInBounds 1 (.int .i64 l) = (({ r with len := l } : R).cells C cap).toArray := by simp [R.cells]
theorem set_tail (k : Nat) (v : Value) : (r.cells C cap).toArray.setIfInBounds (34 + k) v = ([Value.string (S8 r.id), Value.int .i64 r.len] ++ r.root.map B8 ++ ([.int .i64 r.idx, .int .i64 r.exp, .bool r.hold, .bool r.gone, .slice C r.copies.length cap] : List Value).set k v).toArray := by
  have h : ([.string (S8 r.id), .int .i64 r.len] ++ r.root.map B8 : List Value).length = 34 := by simp [r.h32]
  simp only [R.cells, List.setIfInBounds_toArray]
  rw [List.set_append_right _ _ (by omega), h, Nat.add_sub_cancel_left]
theorem set_idx (x : Int) : (r.cells C cap).toArray.setIfInBounds 34 (.int .i64 x) = (({ r with idx := x } : R).cells C cap).toArray := set_tail r C cap 0 _
theorem set_exp (x : Int) : (r.cells C cap).toArray.setIfInBounds 35 (.int .i64 x) = (({ r with exp := x } : R).cells C cap).toArray := set_tail r C cap 1 _
theorem set_hold (x : Bool) : (r.cells C cap).toArray.setIfInBounds 36 (.bool x) = (({ r with hold := x } : R).cells C cap).toArray := set_tail r C cap 2 _
theorem set_gone (x : Bool) : (r.cells C cap).toArray.setIfInBounds 37 (.bool x) = (({ r with gone := x } : R).cells C cap).toArray := set_tail r C cap 3 _
theorem set_copies (l : List Cpy) (C' : Option Addr) (cap' : Nat) : (r.cells C cap).toArray.setIfInBounds 38 (.slice C' l.length cap') = (({ r with copies := l } : R).cells C' cap').toArray := set_tail r C cap 4 _
theorem set_root (root : List UInt8) (h32 : root.length = 32) : (r.cells C cap).take 2 ++ root.map B8 ++ (r.cells C cap).drop (2 + 32) = (({ r with root := root, h32 := h32 } : R).cells C cap) := by
  have h := r.h32
  have e : (r.cells C cap).drop (2 + 32) = [.int .i64 r.idx, .int .i64 r.exp, .bool r.hold, .bool r.gone, .slice C r.copies.length cap] := by
    unfold R.cells
    rw [List.append_assoc, List.drop_append, List.drop_append]
    simp [h]
  rw [e]
  simp [R.cells]
end
def zeroR : R := ⟨[], 0, List.replicate 32 0, 0, 0, false, false, [], by simp⟩
/-- What the reading of a record has in memory: the record as it stands, the error. -/
structure Ds (w wr : World) (r : R) (C : Option Addr) (cap : Nat) : Prop where
  blk : Blk wr w.heap.size 26 (r.cells C cap).toArray
  err : Blk wr (w.heap.size + 1) 29 #[.int .i64 0]
  below : Below w.heap.size w wr
  own : OwnG wr (w.heap.size + 3) 82 4 C r.copies.length cap (cpyCells r.copies)
section
variable {w wr w2 : World} {r r' : R} {C : Option Addr} {cap : Nat}
theorem Ds.grown (h : Ds w wr r C cap) (hg : wr.grownBy w2 (some (w.heap.size + 2))) : Ds w w2 r C cap :=
  ⟨h.blk.grown hg (by simp), h.err.grown hg (by simp), h.below.grown hg h.below.size (fun k hk => by injection hk with hk; omega), h.own.kept hg (.inr (h.own.ne_lt (by omega)))⟩
theorem Ds.alloc (h : Ds w wr r C cap) (o : Obj) : Ds w (wr.alloc o) r C cap := ⟨h.blk.alloc o, h.err.alloc o, h.below.alloc h.below.size o, h.own.alloc o⟩
theorem Ds.drew (h : Ds w wr r C cap) : Ds w wr.drew r C cap := ⟨h.blk.drew, h.err.drew, below_drewN h.below 1, h.own.drew⟩
theorem Ds.to (h : Ds w wr r C cap) (hb : Below wr.heap.size wr w2) : Ds w w2 r C cap := ⟨h.blk.below_ hb, h.err.below_ hb, h.below.trans (hb.mono h.below.size), h.own.below hb⟩
theorem Ds.turned (h : Ds w wr r C cap) (hg : wr.grownBy w2 (some w.heap.size)) (hb : Blk w2 w.heap.size 26 (r'.cells C cap).toArray) (hc : r'.copies = r.copies) : Ds w w2 r' C cap :=
  ⟨hb, h.err.grown hg (by simp), h.below.grown hg h.below.size (fun k hk => by injection hk with hk; omega), by rw [hc]; exact h.own.kept hg (.inr (h.own.ne_lt (by omega)))⟩
theorem Ds.set_ (h : Ds w wr r C cap) (i : Nat) (v : Value) (e : (r.cells C cap).toArray.setIfInBounds i v = (r'.cells C cap).toArray) (hc : r'.copies = r.copies) : Ds w (wr.setCell ⟨w.heap.size, i, none⟩ v) r' C cap :=
  h.turned (grownBy_setCell wr _ v _ rfl) (by rw [← e]; exact h.blk.set_ i v) hc
theorem Ds.far (h : Ds w wr r C cap) {p : Addr} (hp : w.heap.size + 2 ≤ p.block) (hne : C.map (·.block) ≠ some p.block) (v : Value) : Ds w (wr.setCell p v) r C cap :=
  ⟨h.blk.far (by omega) v, h.err.far (by omega) v, h.below.setCell (by omega) v, h.own.kept (grownBy_setCell wr p v _ rfl) (.inr hne)⟩
end
theorem rec_size : (Try.prog.info? 26).map (·.size) = some 39 := by kernel_rfl
theorem load_rec {w : World} {g : Nat} {r : R} {C : Option Addr} {cap : Nat} (h : Blk w g 26 (r.cells C cap).toArray) : (loadVar 26 ⟨g, 0, none⟩).run Try.prog w = .ok (.agg (r.cells C cap).toArray) w :=
  run_loadVar_mid (P := Try.prog) w g 0 26 (r.cells C cap) _ (by simpa using blk_range h) Try.underlying26 rfl (by rw [rec_size, R.size_])
/-- A record that was read, or refused (what else comes back then is not looked at). -/
def RetDc (w : World) (o : Option R) (e : Ending) (w' : World) : Prop :=
  Below w.heap.size w w' ∧ ((o = none ∧ ∃ (r : R) (C : Option Addr) (cap : Nat), e = .returned (.tuple #[.agg (r.cells C cap).toArray, .int .i64 110])) ∨
    ∃ (r : R) (C : Option Addr) (cap : Nat), o = some r ∧ e = .returned (.tuple #[.agg (r.cells C cap).toArray, .int .i64 0]) ∧ OwnG w' w.heap.size 82 4 C r.copies.length cap (cpyCells r.copies))
theorem dec_fails {w wr : World} {r : R} {C : Option Addr} {cap : Nat} {tmps : Array Value} (h : Ds w wr r C cap)
    (h2 : tmps.getD 2 undef = .pointer (some ⟨w.heap.size, 0, none⟩)) (h3 : tmps.getD 3 undef = .pointer (some ⟨w.heap.size + 1, 0, none⟩)) :
    bodyPostD Try.prog Try.f60 (RetDc w none) (Exit.panic thrown) { tmps := tmps, defers := [{ target := Target.fn (Fn.func 84) #[], args := #[.pointer (some ⟨w.heap.size + 1, 0, none⟩)] }] } wr := by
  refine leaves_cons (f := 84) (args := #[.pointer (some ⟨w.heap.size + 1, 0, none⟩)]) (by simp) (by simp [go_sem]) ?_
  refine (caught_panicking (w.heap.size + 1) 0 wr h.err).mono ?_
  rintro e u' w'' ⟨rfl, rfl, rfl⟩
  have hz := h.below.size
  have hl := load_rec (((h.blk.alloc (.cells #[] 130)).far (p := ⟨w.heap.size + 1, 0, none⟩) (by simp) (.int .i64 110)))
  have hr := load_err ((h.err.alloc (.cells #[] 130)).set_ 0 (.int .i64 110))
  refine ⟨.tuple #[.agg (r.cells C cap).toArray, .int .i64 110], ?_, ?_, .inl ⟨rfl, r, C, cap, rfl⟩⟩
  · simp only [Array.getD_eq_getD_getElem?] at h2 h3
    simp [results, Try.results60, asAddr, h2, h3, hl, hr, Sem.run_bind]
  · exact (h.below.alloc hz _).setCell (by simp) _
theorem dec_none {o : Option R} (hn : o = none) {w wr : World} {r : R} {C : Option Addr} {cap : Nat} {tmps : Array Value} (h : Ds w wr r C cap)
    (h2 : tmps.getD 2 undef = .pointer (some ⟨w.heap.size, 0, none⟩)) (h3 : tmps.getD 3 undef = .pointer (some ⟨w.heap.size + 1, 0, none⟩)) :
    bodyPostD Try.prog Try.f60 (RetDc w o) (Exit.panic thrown) { tmps := tmps, defers := [{ target := Target.fn (Fn.func 84) #[], args := #[.pointer (some ⟨w.heap.size + 1, 0, none⟩)] }] } wr := by
  subst hn
  exact dec_fails h h2 h3
theorem dec_ok {w wr : World} {r : R} {C : Option Addr} {cap : Nat} {tmps : Array Value} (h : Ds w wr r C cap)
    (h2 : tmps.getD 2 undef = .pointer (some ⟨w.heap.size, 0, none⟩)) (h3 : tmps.getD 3 undef = .pointer (some ⟨w.heap.size + 1, 0, none⟩)) :
    bodyPostD Try.prog Try.f60 (RetDc w (some r)) Exit.ret { tmps := tmps, defers := [{ target := Target.fn (Fn.func 84) #[], args := #[.pointer (some ⟨w.heap.size + 1, 0, none⟩)] }] } wr := by
  refine leaves_cons (f := 84) (args := #[.pointer (some ⟨w.heap.size + 1, 0, none⟩)]) (by simp) (by simp [go_sem]) ?_
  refine (caught_idle ⟨w.heap.size + 1, 0, none⟩ wr).mono ?_
  rintro e u' w'' ⟨rfl, rfl, rfl⟩
  have hl := load_rec h.blk
  have hr := load_err h.err
  refine ⟨.tuple #[.agg (r.cells C cap).toArray, .int .i64 0], ?_, h.below, .inr ⟨r, C, cap, rfl, rfl, h.own.mono (by omega)⟩⟩
  simp only [Array.getD_eq_getD_getElem?] at h2 h3
  simp [results, Try.results60, asAddr, h2, h3, hl, hr, Sem.run_bind]
theorem dec_some {o : Option R} {w wr : World} {r : R} (hn : o = some r) {C : Option Addr} {cap : Nat} {tmps : Array Value} (h : Ds w wr r C cap)
    (h2 : tmps.getD 2 undef = .pointer (some ⟨w.heap.size, 0, none⟩)) (h3 : tmps.getD 3 undef = .pointer (some ⟨w.heap.size + 1, 0, none⟩)) :
    bodyPostD Try.prog Try.f60 (RetDc w o) Exit.ret { tmps := tmps, defers := [{ target := Target.fn (Fn.func 84) #[], args := #[.pointer (some ⟨w.heap.size + 1, 0, none⟩)] }] } wr := by
  subst hn
  exact dec_ok h h2 h3
theorem dec_made (w : World) (s : Value) : Ds w (((w.alloc (.cells (zeroR.cells none 0).toArray 26)).alloc (.cells #[.int .i64 0] 29)).alloc (.cells #[s] 122)) zeroR none 0 :=
  ⟨((Blk.new w _ _).alloc _).alloc _, (Blk.new_at _ _ (by simp) _ _).alloc _, (((Below.refl _ _).alloc (Nat.le_refl _) _).alloc (by simp) _).alloc (by simp; omega) _, OwnG.nil_ _ _ _ _⟩
theorem decRd_made (w : World) (A : Option Addr) (bs : List UInt8) (m cap : Nat) (hb : BAt w A bs) (hm : bs.length = m) (hc : m ≤ cap) (hcap : m ≤ 140737488355328) :
    Rd w (((w.alloc (.cells (zeroR.cells none 0).toArray 26)).alloc (.cells #[.int .i64 0] 29)).alloc (.cells #[.slice A m cap] 122)) (w.heap.size + 2) A m cap bs :=
  ⟨hb, hm, hc, hcap, (dec_made w _).below, by omega, Blk.new_at _ _ (by simp) _ _⟩
theorem be_at (l : List UInt8) (k : Nat) (h : k < l.length) : be ((l.drop k).take 1) = (l.getD k 0).toNat := by
  rw [be_one _ (by simp; omega)]
  simp [List.getD]
theorem and1 (f : Nat) (h : f < 256) : (bits BinOp.and IntKind.i64 (f : Int) 1 == 1) = (f % 2 == 1) := by
  have : ∀ g : Fin 256, (bits BinOp.and IntKind.i64 ((g.val : Nat) : Int) 1 == 1) = (g.val % 2 == 1) := by decide +kernel
  exact this ⟨f, h⟩
theorem and2 (f : Nat) (h : f < 256) : (bits BinOp.and IntKind.i64 (f : Int) 2 == 2) = (f / 2 % 2 == 1) := by
  have : ∀ g : Fin 256, (bits BinOp.and IntKind.i64 ((g.val : Nat) : Int) 2 == 2) = (g.val / 2 % 2 == 1) := by decide +kernel
  exact this ⟨f, h⟩
/-- What holds at the head of a round. -/
def DecRel (w : World) (r : R) (k : Nat) (body : List UInt8) (iv : Value) (wr : World) : Prop :=
  ∃ (i : Nat) (done : List Cpy) (left : List UInt8) (C : Option Addr) (capC : Nat) (A : Option Addr) (q cap : Nat), i ≤ k ∧ iv = .int .i64 i ∧ done.length = i ∧ copiesM k body = (copiesM (k - i) left).map (fun x => (done ++ x.1, x.2)) ∧
    Ds w wr { r with copies := done } C capC ∧ Rd w wr (w.heap.size + 2) A q cap left
theorem copies_none {k i : Nat} (h : i < k) {left : List UInt8} (hn : ¬ (5 ≤ left.length ∧ (left.getD 4 0).toNat < 2)) : copiesM (k - i) left = none := by
  rw [show k - i = (k - i - 1) + 1 by omega, copiesM, if_neg hn]
theorem copies_step {k i : Nat} (h : i < k) {body left : List UInt8} {done : List Cpy} (hn : 5 ≤ left.length ∧ (left.getD 4 0).toNat < 2) (hc : copiesM k body = (copiesM (k - i) left).map (fun x => (done ++ x.1, x.2))) :
    copiesM k body = (copiesM (k - (i + 1)) (left.drop 5)).map (fun x => (done ++ [cpyOf left] ++ x.1, x.2)) := by
  rw [hc, show k - i = (k - (i + 1)) + 1 by omega, copiesM, if_pos hn, Option.map_map]
  congr 1
  funext x
  simp
theorem copies_end {k : Nat} {body left : List UInt8} {done : List Cpy} (hc : copiesM k body = (copiesM (k - k) left).map (fun x => (done ++ x.1, x.2))) : copiesM k body = some (done, left) := by
  rw [hc, Nat.sub_self]
  simp [copiesM]
theorem Ds.empty {w wr : World} {r : R} (h : Ds w wr r none 0) (hc : r.copies = []) : Ds w wr { r with copies := [] } none 0 := by
  obtain ⟨id, len, root, idx, exp, hold, gone, copies, h32⟩ := r
  dsimp only at hc
  subst hc
  exact h
theorem int_beq_one (b : Nat) : ((b : Int) == 1) = (b == 1) := by rw [Bool.eq_iff_iff]; simp; omega
theorem Ds.append {w wr w2 : World} {r : R} {C C' : Option Addr} {cap c' n0 c0 : Nat} {q : Cpy} (h : Ds w wr r C cap) (hg : wr.grownBy w2 (Value.slice C n0 c0).ownBlock) (ho : OwnG w2 (w.heap.size + 3) 82 4 C' (r.copies.length + 1) c' (cpyCells r.copies ++ q.cells)) :
    Blk w2 w.heap.size 26 (r.cells C cap).toArray ∧ Ds w (w2.setCell ⟨w.heap.size, 38, none⟩ (.slice C' (r.copies.length + 1) c')) { r with copies := r.copies ++ [q] } C' c' := by
  have hrow : (Value.slice C n0 c0).ownBlock = C.map (·.block) := by cases C <;> rfl
  have hne : ∀ g, g < w.heap.size + 3 → some g ≠ (Value.slice C n0 c0).ownBlock := fun g hgl => by rw [hrow]; exact Ne.symm (h.own.ne_lt hgl)
  have hb := h.blk.grown hg (hne _ (by omega))
  refine ⟨hb, ?_, (h.err.grown hg (hne _ (by omega))).far (by simp) _, ?_, ?_⟩
  · have := set_copies r C cap (r.copies ++ [q]) C' c'
    rw [List.length_append, List.length_singleton] at this
    rw [← this]
    exact hb.set_ 38 _
  · exact (h.below.grown hg h.below.size (fun k hk => by
      rw [hrow] at hk
      rcases h.own.form with ⟨rfl, _, _⟩ | ⟨g, rfl, hgg, _⟩
      · cases hk
      · injection hk with hk; subst hk; show w.heap.size ≤ g; omega)).setCell (by simp) _
  · have e1 : (r.copies ++ [q]).length = r.copies.length + 1 := by simp
    show OwnG _ _ _ _ _ (r.copies ++ [q]).length _ _
    rw [cpyCells_snoc, e1]
    exact ho.kept (grownBy_setCell w2 _ _ _ rfl) (.inr (ho.ne_lt (by simp)))
theorem wpList_load_mid_g {P : Program} {ops : Array Oper} {rest : List Oper} {op : Oper} {a : Act} {w : World} {Q : Exit → Act → World → Prop} (hgd : Region.wanted op (yielded ops a.tmps) = true) (ty : TypeId) (x : Operand) (ho : op.op = .load ty x)
    (b o : Nat) (hx : a.eval x = .pointer (some ⟨b, o, none⟩)) (cs : List Value) (d : TypeDesc) (hc : w.rangeAt b o cs)
    (hu : P.underlying ty = some d) (hd : d.isRow = true) (hi : (P.info? ty).map (·.size) = some cs.length)
    (h : wpList P ops Q rest (a.put op.dst (.agg cs.toArray)) w) : wpList P ops Q (op :: rest) a w :=
  BigFrame.wpList_want hgd fun _ hK => wp_load_mid ty x ho b o hx cs d hc hu hd hi (hK _ _ h)
theorem rec_one (r : R) (C : Option Addr) (cap : Nat) : ∀ v ∈ r.cells C cap, v.oneCell' = true := by
  intro v hv
  unfold R.cells at hv
  rcases List.mem_append.1 hv with hv | hv
  · rcases List.mem_append.1 hv with hv | hv
    · simp at hv; rcases hv with rfl | rfl <;> rfl
    · exact cells_one _ v hv
  · simp at hv; rcases hv with rfl | rfl | rfl | rfl | rfl <;> rfl
theorem Rd.cast {w0 w : World} {g : Nat} {A : Option Addr} {m cap : Nat} {bs bs' : List UInt8} (h : Rd w0 w g A m cap bs) (e : bs = bs') : Rd w0 w g A m cap bs' := e ▸ h
end Go.Proofs.Ytomncfiklkhfjaa.Rec
