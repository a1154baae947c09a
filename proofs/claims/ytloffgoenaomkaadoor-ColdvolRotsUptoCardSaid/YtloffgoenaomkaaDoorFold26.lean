/- The bytes of a string, and more bytes behind them: 'append([]byte(s), b...)'. -/
import Derived.Test.YtloffgoenaomkaaDoorFold14
import Derived.Test.YtloffgoenaomkaaDoorFold8
import Derived.ArgAppend
import Derived.Test.YtloffgoenaomkaaDoorOrdFork
import Derived.Test.YtloffgoenaomkaaDoorFold5
import Derived.Test.YtloffgoenaomkaaDoorTree4
namespace Go.Proofs.YtloffgoenaomkaaDoor.Rec
open Go Go.RowKit Mem
/-- The bytes of a string, laid in a block of their own. -/
def StrB (w : World) (g cap : Nat) (xs : List UInt8) : Prop :=
  ∃ cur : Array Value, w.heap[g]? = some (.cells cur 5 (cur.size, cur.size + 1)) ∧ cur.size = cap ∧ xs.length ≤ cap ∧ cap ≤ maxLen ∧ ∀ k, k < xs.length → cur[k]? = some (.int .u8 (V8 (xs.getD k 0)))
theorem StrB.below {w w' : World} {g cap : Nat} {xs : List UInt8} (h : StrB w g cap xs) (hb : Below w.heap.size w w') : StrB w' g cap xs := by
  obtain ⟨cur, h1, h2⟩ := h
  exact ⟨cur, (hb.block g (Array.getElem?_eq_some_iff.1 h1).1).trans h1, h2⟩
theorem wpList_str_own {w : World} {ops : Array Oper} {rest : List Oper} {o : Oper} {a : Act} {Q : Exit → Act → World → Prop} (hgd : o.guard = none) (x : Operand)
    (ho : o.op = .convert 9 38 x) (bs : List UInt8) (hx : a.eval x = .string (S8 bs)) (hl : bs.length ≤ 1000000)
    (h : ∀ c w', StrB w' w.heap.size c bs → Below w.heap.size w w' → wpList Tryd.prog ops Q rest (a.put o.dst (.slice (some ⟨w.heap.size, 0, none⟩) bs.length c)) w') : wpList Tryd.prog ops Q (o :: rest) a w := by
  refine wpList_plain hgd fun K hK => ?_
  have hr := run_bytes_of_string (P := Tryd.prog) w 9 38 5 (S8 bs) Tryd.underlying9 Pl.byteTy.ht Pl.byteTy.he
  rw [S8_size] at hr
  unfold Oper.wp execOp
  simp only [ho, hx, hr, Sem.run_bind, Sem.run_pure, Result.andThen_ok]
  have hge := grownCap_ge w bs.length 0 5
  refine hK _ _ (h _ _ ?_ ?_)
  · refine ⟨bytesRow (S8 bs) (grownCap w bs.length 0 5), heap_alloc_new w.drew _, ?_, hge, ?_, fun k hk => row_S8 bs _ k hk⟩
    · unfold bytesRow
      rw [Array.size_append, Array.size_map, Array.size_replicate, S8_size]
      have : (S8 bs).data.size = bs.length := by simp [S8]
      omega
    · exact grownCap_le_maxLen w bs.length 0 5 (by unfold maxLen; omega)
  · exact ((Below.refl _ _).drew).alloc (Nat.le_refl _) _
theorem below_setCells {g b : Nat} (hgb : g ≤ b) {w0 : World} : ∀ (vs : List Value) (o : Nat) (w : World), Below g w0 w → Below g w0 (w.setCells b o vs)
  | [], _, _, h => h
  | v :: vs, o, _w, h => below_setCells hgb vs (o + 1) _ (h.setCell (p := ⟨b, o, none⟩) hgb v)
theorem run_append_str {w : World} {g cap n : Nat} {xs : List UInt8} (hs : StrB w g cap xs) (hn : xs.length = n) (B : Option Addr) (m d : Nat) (bs : List UInt8) (hB : BAt w B bs) (hm : bs.length = m) (hd : B = none → d = 0) (hle : n + m ≤ 1000000) :
    ∃ A' c' w', (Builtin.append_ #[38, 38] 38 #[.slice (some ⟨g, 0, none⟩) n cap, .slice B m d]).run Tryd.prog w = .ok (.slice A' (n + m) c') w' ∧ BAt w' A' (xs ++ bs) ∧ Below g w w' := by
  obtain ⟨cur, hh, hcs, hxc, hcm, hcell⟩ := hs
  subst hcs
  have hg := (Array.getElem?_eq_some_iff.1 hh).1
  obtain ⟨i, hi, hz, hsz, hby⟩ := Pl.elByte.info
  have hcx : ∀ k, k < xs.length → w.cell? ⟨g, k, none⟩ = some (.int .u8 (V8 (xs.getD k 0))) := fun k hk => by
    simp only [World.cell?, hh]
    exact hcell k hk
  rcases Nat.eq_zero_or_pos m with hm0 | hm0
  · subst hm0
    have hbs : bs = [] := List.eq_nil_of_length_eq_zero hm
    subst hbs
    have hbx : BAt w (some ⟨g, 0, none⟩) xs := fun _ => ⟨_, rfl, fun k hk => by rw [add_off, Nat.zero_add]; exact hcx k hk⟩
    refine ⟨some ⟨g, 0, none⟩, cur.size, w, ?_, by simpa using hbx, Below.refl _ _⟩
    have hn' : n ≤ cur.size := by omega
    cases B <;> simp [Builtin.append_, run_underlying Tryd.underlying38, sizeOf, typeInfo, hi, Builtin.lenOf, Builtin.firstCells, loadCells, loadCellsFrom, storeCells, hn']
  · obtain ⟨a, rfl, hcs⟩ := hB (by omega)
    have hnews : ∀ j v, (bs.map B8)[j]? = some v → w.cell? (a.add j) = some v := fun j v hv => by
      have hj : j < bs.length := by have := (List.getElem?_eq_some_iff.1 hv).1; simpa using this
      rw [hcs j hj]
      rw [List.getElem?_map, List.getElem?_eq_getElem hj] at hv
      rw [List.getD_eq_getElem?_getD, List.getElem?_eq_getElem hj]
      simpa [B8] using hv
    have holds : ∀ j v, (xs.map B8)[j]? = some v → w.cell? ((⟨g, 0, none⟩ : Addr).add j) = some v := fun j v hv => by
      have hj : j < xs.length := by have := (List.getElem?_eq_some_iff.1 hv).1; simpa using this
      rw [add_off, Nat.zero_add, hcx j hj]
      rw [List.getElem?_map, List.getElem?_eq_getElem hj] at hv
      rw [List.getD_eq_getElem?_getD, List.getElem?_eq_getElem hj]
      simpa [B8] using hv
    by_cases hroom : n + m ≤ cur.size
    · have hr := run_append_room_cells (P := Tryd.prog) (w := w) 38 38 5 i Tryd.underlying38 hi g 0 n cur.size a m d (bs.map B8) (by simp [hsz, hm]) hnews (by intro u hu; obtain ⟨x, _, rfl⟩ := List.mem_map.1 hu; rfl) hroom
        (fun j hj => by
          simp only [List.length_map] at hj
          simp only [World.cell?, hh, hsz]
          rw [Array.getElem?_eq_getElem (by omega)]
          rfl)
        (fun j hj => by
          simp only [List.length_map] at hj
          simp only [World.frozen?, hh, hsz]
          simp
          omega)
      refine ⟨_, _, _, hr, ?_, ?_⟩
      · intro _
        refine ⟨_, rfl, fun k hk => ?_⟩
        rw [add_off]
        simp only [Nat.zero_add]
        rw [List.length_append, hn, hm] at hk
        rcases Nat.lt_or_ge k n with hkn | hkn
        · rw [World.cell?_setCells_out g _ _ _ _ (fun _ _ => .inl (by show k < n * i.size; rw [hsz]; omega)), hcx k (by omega)]
          rw [List.getD_eq_getElem?_getD, List.getD_eq_getElem?_getD, List.getElem?_append_left (by omega)]
        · have hin := World.cell?_setCells_in g (bs.map B8) (0 + n * i.size) w (fun j hj => by
            simp only [List.length_map] at hj
            simp only [World.cell?, hh, hsz]
            rw [Array.getElem?_eq_getElem (by omega)]
            rfl) (k - n) (by simp; omega)
          rw [show 0 + n * i.size + (k - n) = k by rw [hsz]; omega] at hin
          simp only [Nat.zero_add] at hin
          rw [hin, List.getD_eq_getElem?_getD, List.getElem?_append_right (by omega), hn, List.getElem?_eq_getElem (by omega)]
          simp [B8]
      · exact below_setCells (Nat.le_refl g) _ _ _ (Below.refl _ _)
    · have hr := run_append_grow (P := Tryd.prog) w 38 38 5 i (.int .u8 0) Tryd.underlying38 hi hz ⟨g, 0, none⟩ n cur.size (xs.map B8) (by simp [hsz, hn]) holds a m d (bs.map B8) (by simp [hsz, hm]) hnews (by omega) (by omega) (growslice_fits (by omega) (by rw [hby]; omega))
      refine ⟨_, _, _, hr, ?_, ?_⟩
      · refine BAt.of_block (heap_alloc_new w.drew _) 0 fun k hk => ?_
        rw [List.length_append] at hk
        rw [Nat.zero_add, Array.getElem?_append_left (by simp; omega)]
        simp only [List.append_toArray, List.getElem?_toArray]
        rw [← List.map_append, List.getElem?_map, List.getD_eq_getElem?_getD, List.getElem?_eq_getElem (by rw [List.length_append]; exact hk)]
        simp [B8]
      · exact ((below_drewN (Below.refl g w) 1).alloc (by show g ≤ w.heap.size; omega) _)
theorem wpList_append_strb {w : World} {ops : Array Oper} {rest : List Oper} {o : Oper} {a : Act} {Q : Exit → Act → World → Prop} (hgd : o.guard = none) (s x : Operand)
    (ho : o.op = .call { callee := .builtin .append, args := #[s, x], argTypes := #[38, 38] }) (hty : o.type = 38) (g cap n : Nat) (xs : List UInt8) (hs : a.eval s = .slice (some ⟨g, 0, none⟩) n cap) (hsb : StrB w g cap xs) (hn : xs.length = n)
    (B : Option Addr) (m d : Nat) (bs : List UInt8) (hx : a.eval x = .slice B m d) (hB : BAt w B bs) (hm : bs.length = m) (hd : B = none → d = 0) (hle : n + m ≤ 1000000)
    (h : ∀ A' c' w', BAt w' A' (xs ++ bs) → Below g w w' → wpList Tryd.prog ops Q rest (a.put o.dst (.slice A' (n + m) c')) w') : wpList Tryd.prog ops Q (o :: rest) a w := by
  refine wpList_plain hgd fun K hK => ?_
  obtain ⟨A', c', w', hrun, h2, h3⟩ := run_append_str hsb hn B m d bs hB hm hd hle
  unfold Oper.wp execOp
  simp only [ho, hty, resolve, invoke, builtin, Sem.run_bind, Sem.run_pure, Result.andThen_ok, List.map_toArray, List.map_cons, List.map_nil, hs, hx, hrun]
  exact hK _ _ (h A' c' w' h2 h3)
end Go.Proofs.YtloffgoenaomkaaDoor.Rec
/- A drawn region walked by a tree of orders: where a call that writes what no waiting operation reads may come up beside an allocation. -/
namespace Go.Proofs.YtloffgoenaomkaaDoor.Ord
open Go.RowKit Mem
section
variable {P : Program} {ops : Array Oper} {Q : Exit → Act → World → Prop} {md : Region.Mode} {L : List Nat}
/-- Two may come up next; the first is bound to nothing. -/
theorem tb_fork_free {i j k : Nat} {oi oj : Oper} {listed : Array Bool} {a : Act} {w : World} (hr : Region.ready md ops listed = [i, j]) (hi : ops[i]? = some oi) (hj : ops[j]? = some oj) (hki : keepsB P ops L i = false)
    (h1 : wpList P ops (NX (NP Q) fun a' w' => TB P md ops Q L k (listed.setIfInBounds i true) a' w') [oi] a w)
    (h2 : wpList P ops (NX (NP Q) fun a' w' => Below w.heap.size w w' ∧ TB P md ops Q L k (listed.setIfInBounds j true) a' w') [oj] a w) : TB P md ops Q L (k + 1) listed a w := fun hcl =>
  ⟨fun h0 => absurd h0 (by rw [hr]; simp), fun m hm => by
    have hm' := hm
    rw [hr] at hm'
    simp only [List.mem_cons, List.not_mem_nil, or_false] at hm'
    rcases hm' with rfl | rfl
    · exact wpOp_mono (fun a' w' x => ⟨fun h => (by rw [hki] at h; cases h), x (hcl.set hm)⟩) (wpOp_of_list hi h1)
    · exact wpOp_mono (fun a' w' x => ⟨fun _ => x.1, x.2 (hcl.set hm)⟩) (wpOp_of_list hj h2)⟩
end
end Go.Proofs.YtloffgoenaomkaaDoor.Ord
/- A drawn region walked in one order, under a condition S on the world that all its operations keep: what is read where S holds may be read first. -/
namespace Go.Proofs.YtloffgoenaomkaaDoor.Ord
open Go.RowKit Mem
section
variable {P : Program} {ops : Array Oper} {Q : Exit → Act → World → Prop} {md : Region.Mode} {L M : List Nat} {S : World → Prop}
/-- The one order: each of M yields what it is said to wherever S holds; behind each of L S is shown. -/
def wpOrdS (P : Program) (ops : Array Oper) (Q : Exit → Act → World → Prop) (S : World → Prop) (L M : List Nat) : List Nat → Act → World → Prop
  | [], a, w => Q .normal a w
  | i :: r, a, w => if M.contains i = true then ∃ o v, ops[i]? = some o ∧ YieldsIf P ops S o v a ∧ wpOrdS P ops Q S L M r (a.put o.dst v) w
    else wpOp P ops Q i (fun a' w' => (L.contains i = true → S w') ∧ wpOrdS P ops Q S L M r a' w') a w
def okOrdS (P : Program) (md : Region.Mode) (ops : Array Oper) (L M : List Nat) : List Nat → Array Bool → Bool
  | [], listed => (Region.ready md ops listed).isEmpty
  | i :: r, listed => (match ops[i]? with
    | none => false
    | some o => if M.contains i then (Region.ready md ops listed).contains i && Region.free md ops listed i else if L.contains i then Region.ready md ops listed == [i] else match kindOf P o with
      | .blind => (Region.ready md ops listed).contains i && Region.free md ops listed i
      | _ => false) && okOrdS P md ops L M r (listed.setIfInBounds i true)
theorem anyT_of_ordS (hsel : Region.noSelect ops = true) : ∀ (order : List Nat) (listed : Array Bool) (a : Act) (w : World), S w → okOrdS P md ops L M order listed = true →
    wpOrdS P ops (NP Q) S L M order a w → Held.anyT P md ops (NP Q) S (fun _ => True) ops.size order.length listed a w
  | [], listed, a, w, _, hok, h => ⟨by simpa [okOrdS] using hok, h⟩
  | i :: r, listed, a, w, hS, hok, h => by
    have hsp := Region.noSelect_spec hsel
    unfold okOrdS at hok
    rw [Bool.and_eq_true] at hok
    obtain ⟨h1, h2⟩ := hok
    split at h1
    · cases h1
    · rename_i o ho
      have hin : i ≠ ops.size := by
        intro e
        rw [e] at ho
        simp at ho
      by_cases hM : M.contains i = true
      · rw [if_pos hM, Bool.and_eq_true] at h1
        have hr : i ∈ Region.ready md ops listed := by simpa using h1.1
        unfold wpOrdS at h
        rw [if_pos hM] at h
        obtain ⟨o', v, ho', hy, hK⟩ := h
        have e : o' = o := Option.some.inj (ho'.symm.trans ho)
        subst e
        exact Held.anyT_first S ho hsp (fun _ _ _ x => x) hin r.length listed a w (Region.free_spec ho h1.2) (.inl fun _ x => x) hr hy ⟨hS, fun _ => trivial⟩ (anyT_of_ordS hsel r _ _ _ hS h2 hK)
      rw [if_neg hM] at h1
      unfold wpOrdS at h
      rw [if_neg hM] at h
      by_cases hL : L.contains i = true
      · rw [if_pos hL] at h1
        have hr : Region.ready md ops listed = [i] := by simpa using h1
        refine ⟨fun h0 => absurd h0 (by rw [hr]; simp), fun j hj => ?_⟩
        have hj' : j = i := by rw [hr] at hj; simpa using hj
        subst hj'
        exact wpOp_mono (fun a' w' x => ⟨⟨x.1 hL, fun _ => trivial⟩, anyT_of_ordS hsel r _ _ _ (x.1 hL) h2 x.2⟩) h
      · rw [if_neg hL] at h1
        split at h1
        · rename_i hk
          simp only [Bool.and_eq_true, List.contains_iff_mem] at h1
          have hr : i ∈ Region.ready md ops listed := by simpa using h1.1
          obtain ⟨v, hy, hK⟩ := blind_first ho hk h
          exact Held.anyT_first S ho hsp (fun _ _ _ x => x) hin r.length listed a w (Region.free_spec ho h1.2) (.inl fun _ x => x) hr (hy.imp (fun x => ⟨x.1, fun w _ => x.2 w trivial⟩) id) ⟨hS, fun _ => trivial⟩ (anyT_of_ordS hsel r _ _ _ hS h2 hK.2)
        · cases h1
/-- **A region whose order is drawn, walked in one order, under S.** -/
theorem region_ordS {id : Nat} {a : Act} {w : World} (S : World → Prop) (L M order : List Nat) (hm : P.follows .mixedOrders = true) (hsel : Region.noSelect ops = true) (hlen : order.length = ops.size)
    (hok : okOrdS P .any ops L M order (Array.replicate ops.size false) = true) (hS : S w.drew) (h : wpOrdS P ops (NP Q) S L M order a w.drew) : (Code.region id ops true).wp P Q a w := by
  refine Code.wp_mono NP.imp (wp_region_any hm ?_)
  have := anyT_of_ordS (md := .any) (S := S) hsel order _ a w.drew hS hok h
  exact Held.anyT_any _ _ _ _ (by rw [hlen] at this; exact this)
theorem ordS_run {r : List Nat} : ∀ (l : List Nat) (lops : List Oper) {a : Act} {w : World}, l.map (ops[·]?) = lops.map some → (l.all fun i => !L.contains i && !M.contains i) = true →
    wpList P ops (NX (NP Q) (wpOrdS P ops (NP Q) S L M r)) lops a w → wpOrdS P ops (NP Q) S L M (l ++ r) a w
  | [], [], a, w, _, _, h => h
  | [], _ :: _, a, w, hl, _, h => by cases hl
  | _ :: _, [], a, w, hl, _, h => by cases hl
  | i :: l, o :: lops, a, w, hl, hL, h => by
    simp only [List.map_cons, List.cons.injEq] at hl
    simp only [List.all_cons, Bool.and_eq_true] at hL
    have ih := fun (a' : Act) (w' : World) => ordS_run (r := r) l lops (a := a') (w := w') hl.2 hL.2
    have hnc : L.contains i = false := by simpa using hL.1.1
    have hnm : ¬ M.contains i = true := by simpa using hL.1.2
    show wpOrdS P ops (NP Q) S L M (i :: (l ++ r)) a w
    unfold wpOrdS
    rw [if_neg hnm]
    unfold wpOp
    simp only [hl.1]
    unfold wpList at h
    split
    · rename_i hw
      rw [if_pos hw] at h
      rcases h with h | ⟨_, h⟩
      · exact .inl (wp_next (fun a' w' x => ⟨fun hc => (by rw [hnc] at hc; cases hc), ih a' w' x⟩) h)
      · obtain ⟨_, _, h⟩ := h
        exact (h : False).elim
    · rename_i hw
      rw [if_neg hw] at h
      exact ⟨fun hc => (by rw [hnc] at hc; cases hc), ih _ _ h⟩
/-- An operation of M. -/
theorem ordS_val {i : Nat} {o : Oper} {r : List Nat} {a : Act} {w : World} (v : Value) (hi : ops[i]? = some o) (hM : M.contains i = true) (hy : YieldsIf P ops S o v a) (h : wpOrdS P ops (NP Q) S L M r (a.put o.dst v) w) : wpOrdS P ops (NP Q) S L M (i :: r) a w := by
  unfold wpOrdS
  rw [if_pos hM]
  exact ⟨o, v, hi, hy, h⟩
/-- An operation of L: S is shown behind it. -/
theorem ordS_one {i : Nat} {o : Oper} {r : List Nat} {a : Act} {w : World} (hi : ops[i]? = some o) (hM : M.contains i = false)
    (h : wpList P ops (NX (NP Q) (fun a' w' => S w' ∧ wpOrdS P ops (NP Q) S L M r a' w')) [o] a w) : wpOrdS P ops (NP Q) S L M (i :: r) a w := by
  unfold wpOrdS
  rw [if_neg (by rw [hM]; simp)]
  unfold wpOp
  simp only [hi]
  unfold wpList at h
  split
  · rename_i hw
    rw [if_pos hw] at h
    rcases h with h | ⟨_, h⟩
    · exact .inl (wp_next (fun a' w' x => ⟨fun _ => x.1, x.2⟩) h)
    · obtain ⟨_, _, h⟩ := h
      exact (h : False).elim
  · rename_i hw
    rw [if_neg hw] at h
    exact ⟨fun _ => h.1, h.2⟩
theorem nxS_run {r : List Nat} {a : Act} {w : World} (h : wpOrdS P ops (NP Q) S L M r a w) : NX (NP Q) (wpOrdS P ops (NP Q) S L M r) .normal a w := h
theorem nxS_one {r : List Nat} {a : Act} {w : World} (hS : S w) (h : wpOrdS P ops (NP Q) S L M r a w) : NX (NP Q) (fun a' w' => S w' ∧ wpOrdS P ops (NP Q) S L M r a' w') .normal a w := ⟨hS, h⟩
theorem ordS_end {a : Act} {w : World} (h : Q .normal a w) : wpOrdS P ops (NP Q) S L M [] a w := h
end
end Go.Proofs.YtloffgoenaomkaaDoor.Ord
/- Layer 15 (coldvol): an object's leaf: what Seal's own function does. -/
namespace Go.Proofs.YtloffgoenaomkaaDoor.Col
open Go Go.RowKit Mem Pl Crc Hash Sha
set_option maxRecDepth 100000 in
set_option maxHeartbeats 4000000 in
theorem seal1_any (w : World) (F : Nat → Prop) (gv g n : Nat) (ps : List (List UInt8)) (x y z : Int) (bad : Bool) (id : List UInt8) (hid : id.length ≤ 16) (A : Option Addr) (m cap : Nat) (b : List UInt8) (hb : BAt w A b) (hm : b.length = m) (hm5 : m ≤ 512) (hnil : A = none → cap = 0)
    (hv : Blk w gv 101 #[.pointer (some ⟨g, 0, none⟩)]) (hF : ∀ x, F x → g ≤ x) (hgv : ¬ F gv) (hg : GrowB w F g n ps) (hn : n ≤ 1000000) (hkt : Ktab w) (hgk : 1 < g) :
    Calls Tryd.prog 46 #[.agg #[.int .i64 x, .int .i64 y, .int .i64 z, .bool bad], .string (Rec.S8 id), .slice A m cap, .pointer (some ⟨gv, 0, none⟩)] w fun e w' =>
      e = .returned (.tuple #[]) ∧ GrowB w' (fun x => F x ∨ w.heap.size ≤ x) g (n + 1) (addGo n ps (leafM (id ++ b))) ∧ Mods w.heap.size (Gset F g) w w' := by
  have hb1 := below_al' (w := w) (.cells #[.int .i64 x, .int .i64 y, .int .i64 z, .bool bad] 35)
  have hglt : g < w.heap.size := by obtain ⟨v, hk, _⟩ := hg; exact hk.lt
  have HG := Lib.hid hg
  have HB := Lib.hid hb
  have HB1 := Lib.hid hb1
  have HKT := Lib.hid hkt
  have HM := Lib.hid hm
  have HVV := Lib.hid hv
  have cv := hv.cell 0
  simp at cv
  have hvl := hv.lt
  clear hb hb1 hkt hg hv hm
  go_enter Tryd.func46, Tryd.ntmps46
  go_wp2_with fail
  generalize w.alloc (.cells #[.int .i64 x, .int .i64 y, .int .i64 z, .bool bad] 35) = w1 at *
  have cv1 := (HB1.out.cell (p := ⟨gv, 0, none⟩) hvl).trans cv
  have hbd : Below w1.heap.size w1 w1.drew := below_drewN (Below.refl _ _) 1
  have cvd : w1.drew.cell? ⟨gv, 0, none⟩ = some (.pointer (some ⟨g, 0, none⟩)) := cv1
  have hg1 : GrowB w1.drew F g n ps := by
    obtain ⟨v, hk, hr, hp⟩ := HG.out
    have hbb := HB1.out.trans (hbd.mono HB1.out.size)
    exact ⟨v, hk.below_ hbb, ⟨hr.1.below hbb, hr.2⟩, hp⟩
  have HB2 := Lib.hid (HB1.out.trans (hbd.mono HB1.out.size))
  have HG1 := Lib.hid hg1
  have HBB := Lib.hid (HB.out.below HB2.out)
  have hvl1 : gv < w1.drew.heap.size := Nat.lt_of_lt_of_le hvl HB2.out.size
  clear hg1 hbd
  refine Ord.region_ordS (fun x => x.cell? ⟨gv, 0, none⟩ = some (.pointer (some ⟨g, 0, none⟩))) [2, 4, 5, 6] [0] [0, 1, 3, 2, 4, 5, 6] (by kernel_rfl) (by kernel_rfl) (by kernel_rfl) (by kernel_rfl) cvd (Ord.ordS_val (.pointer (some ⟨g, 0, none⟩)) rfl (by kernel_rfl) (.inl ⟨rfl, fun x hx => ?_⟩) ?_)
  · go_simp
  simp only [Act.put, List.setIfInBounds_toArray]
  refine Ord.ordS_run [1, 3] [_, _] rfl (by kernel_rfl) ?_
  go_wp2_with fail
  refine Ord.nxS_run (Ord.ordS_one rfl (by kernel_rfl) ?_)
  refine Rec.wpList_str_own rfl (.tmp 8) rfl id rfl (by omega) ?_
  intro c2 w2 hs2 hb2
  refine Ord.nxS_one ((hb2.cell (p := ⟨gv, 0, none⟩) hvl1).trans cvd) (Ord.ordS_one rfl (by kernel_rfl) ?_)
  refine Rec.wpList_append_strb rfl (.tmp 9) (.tmp 10) rfl rfl w1.drew.heap.size c2 id.length id rfl hs2 rfl A m cap b rfl (HBB.out.below hb2) HM.out hnil (by omega) ?_
  intro A3 c3 w3 hbat3 hb3
  have hb3' : Below w1.drew.heap.size w1.drew w3 := hb2.trans hb3
  have HB3 := Lib.hid (HB2.out.trans (hb3'.mono HB2.out.size))
  have cv3 := (hb3'.cell (p := ⟨gv, 0, none⟩) hvl1).trans cvd
  have HLF := Lib.hid (leaf_any w3 A3 (id.length + m) c3 (id ++ b) hbat3 (by rw [List.length_append, HM.out]) (by omega) (HKT.out.below HB3.out (by omega)) (by have := HB3.out.size; omega))
  have HG3 : Hid (GrowB w3 F g n ps) := Lib.hid (by
    obtain ⟨v, hk, hr, hp⟩ := HG1.out
    exact ⟨v, hk.below_ hb3', ⟨hr.1.below hb3', hr.2⟩, hp⟩)
  have hvl3 : gv < w3.heap.size := Nat.lt_of_lt_of_le hvl1 hb3'.size
  clear hbat3 hb2 hb3 hs2 hb3'
  refine Ord.nxS_one cv3 (Ord.ordS_one rfl (by kernel_rfl) ?_)
  go_wp2_with fail
  refine HLF.out.mono ?_
  rintro e w4 ⟨rfl, hb4⟩
  have HG4 : Hid (GrowB w4 F g n ps) := Lib.hid (by
    obtain ⟨v, hk, hr, hp⟩ := HG3.out
    exact ⟨v, hk.below_ hb4, ⟨hr.1.below hb4, hr.2⟩, hp⟩)
  have HB4 := Lib.hid (HB3.out.trans (hb4.mono HB3.out.size))
  have cv4 := (hb4.cell (p := ⟨gv, 0, none⟩) hvl3).trans cv3
  have HAD := Lib.hid (add_any w4 F g n ps hF HG4.out hn (leafM (id ++ b)) (leafM_len _) (HKT.out.below HB4.out (by omega)) hgk)
  clear hb4
  go_wp2_with fail
  refine Ord.nxS_one cv4 (Ord.ordS_one rfl (by kernel_rfl) ?_)
  go_wp2_with fail
  refine HAD.out.mono ?_
  rintro e w5 ⟨rfl, hg5, hm5⟩
  have H5 : Hid (GrowB w5 (fun x => F x ∨ w.heap.size ≤ x) g (n + 1) (addGo n ps (leafM (id ++ b))) ∧ Mods w.heap.size (Gset F g) w w5) := Lib.hid ⟨hg5.mono fun x _ hx => by
    rcases hx with hx | hx
    · exact .inl hx
    · exact .inr (Nat.le_trans HB4.out.size hx), (Mods.of_below HB4.out).trans (hm5.mono HB4.out.size fun x hx hG => hG)⟩
  have hblk4 : w4.heap[gv]? = some (.cells #[.pointer (some ⟨g, 0, none⟩)] 101 (0, 0)) := (HB4.out.block gv hvl).trans HVV.out
  have cv5 : w5.cell? ⟨gv, 0, none⟩ = some (.pointer (some ⟨g, 0, none⟩)) := by
    have hk5 := hm5.keep gv (Array.getElem?_eq_some_iff.1 hblk4).1 (fun hG => by
      rcases hG with h1 | h1
      · obtain ⟨v, hk, _⟩ := HG4.out
        rw [h1] at hblk4
        have h3 : w4.heap[g]? = some (.cells #[.int .i64 (n : Int), v] 134 (0, 0)) := hk
        rw [h3] at hblk4
        injection hblk4 with h4
        injection h4 with _ h4
        exact absurd h4 (by decide)
      · exact hgv h1)
    simp only [World.cell?] at cv4 ⊢
    rw [hk5]
    exact cv4
  clear hg5 hm5
  go_wp2_with fail
  refine Ord.nxS_one cv5 (Ord.ordS_end ?_)
  go_wp2_with fail
  refine bodyPost_end (results_none rfl _ _ _) rfl ⟨rfl, H5.out⟩
end Go.Proofs.YtloffgoenaomkaaDoor.Col
