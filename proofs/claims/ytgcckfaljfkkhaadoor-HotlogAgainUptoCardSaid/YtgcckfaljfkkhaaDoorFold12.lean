/- The hot disk's 'find': which place in use that is. -/
import Derived.Test.YtgcckfaljfkkhaaDoorHotFit
import Derived.Laws.StructEq
import Derived.Test.YtgcckfaljfkkhaaDoorFold5
import Derived.ArgAppend
import Derived.Test.YtgcckfaljfkkhaaDoorRows
import Derived.WalkKit
import Derived.Lib.Hide
import Derived.Test.YtgcckfaljfkkhaaDoorFold0
import Derived.WalkSpells
import Derived.BigQuiet
import Derived.Deep.QuietTactic
import Derived.Deep.RegionHeld3
import Derived.Deep.DrawnRows
namespace Go.Proofs.YtgcckfaljfkkhaaDoor.Hot
open Go Go.RowKit Mem Pl
/-- Two places are one. -/
def pcEq (a b c : Int) (d : Bool) (a' b' c' : Int) (d' : Bool) : Bool := a == a' && (b == b' && (c == c' && d == d'))
theorem u_i64 : Tryd.prog.underlying 3 = some (.int .i64) := Tryd.underlying3
theorem u_bool : Tryd.prog.underlying 4 = some .bool := Tryd.underlying4
theorem eqIn_pc (a b c : Int) (d : Bool) (a' b' c' : Int) (d' : Bool) (w : World) : (Op.equalIn 10000 36 (.agg #[.int .i64 a, .int .i64 b, .int .i64 c, .bool d]) (.agg #[.int .i64 a', .int .i64 b', .int .i64 c', .bool d'])).run Tryd.prog w = .ok (pcEq a b c d a' b' c' d') w := by
  rw [run_equalIn_agg w 9999 _ _ _ (by kernel_rfl) (by kernel_rfl)]
  unfold Program.fieldsOf pcEq
  rw [Tryd.underlying36]
  simp [Op.eqFields, part, isAgg, run_underlying u_i64, run_underlying u_bool, run_equalIn_int w 9998 _ .i64 .i64 _ _ u_i64, run_equalIn_bool' w 9998 _ _ _ u_bool]
  cases h1 : (a == a') <;> cases h2 : (b == b') <;> cases h3 : (c == c') <;> cases h4 : (d == d') <;> simp_all
theorem eql_pc (a b c : Int) (d : Bool) (a' b' c' : Int) (d' : Bool) (w : World) : (binOp .eql 36 (.agg #[.int .i64 a, .int .i64 b, .int .i64 c, .bool d]) (.agg #[.int .i64 a', .int .i64 b', .int .i64 c', .bool d'])).run Tryd.prog w = .ok (.bool (pcEq a b c d a' b' c' d')) w := by
  rw [run_eql_struct, eqIn_pc]
  rfl
theorem neq_pc (a b c : Int) (d : Bool) (a' b' c' : Int) (d' : Bool) (w : World) : (binOp .neq 36 (.agg #[.int .i64 a, .int .i64 b, .int .i64 c, .bool d]) (.agg #[.int .i64 a', .int .i64 b', .int .i64 c', .bool d'])).run Tryd.prog w = .ok (.bool (!pcEq a b c d a' b' c' d')) w := by
  rw [run_neq_struct, eqIn_pc]
  rfl
theorem guard_pc (op : BinOp) (x y : Operand) (xs ys : Array Value) (w : World) : (eqGuard op 36 x y (.agg xs) (.agg ys)).run Tryd.prog w = .ok () w := run_eqGuard_agg w op 36 x y xs ys (by kernel_rfl)
/-- Whether a place in use is that one. -/
def isP (dev : Nat) (d at_ len : Int) (u : Pc) : Bool := pcEq d at_ len false (dev : Int) (u.1 : Int) (u.2 : Int) false
/-- The first of them. -/
def FindIs (used : List Pc) (P : Pc → Bool) (r : Option Nat) : Prop := match r with
  | some k => (∃ u, used[k]? = some u ∧ P u = true) ∧ ∀ j u, j < k → used[j]? = some u → P u = false
  | none => ∀ u ∈ used, P u = false
def findI (r : Option Nat) : Int := match r with
  | some k => (k : Int)
  | none => -1
theorem used_get {dev : Nat} {used : List Pc} {k : Nat} {u : Pc} (h : used[k]? = some u) {j : Nat} (hj : j < 4) : (used.flatMap (pcCells dev))[k * 4 + j]? = (pcCells dev u)[j]? := by
  rw [List.flatMap_def]
  exact flat_get (size := 4) (used.map (pcCells dev)) (fun r hr => by obtain ⟨y, _, rfl⟩ := List.mem_map.1 hr; rfl) k j _ (by rw [List.getElem?_map, h]; rfl) hj
def IdxR (used : List Pc) (P : Pc → Bool) (w1 : World) (iv : Value) (wr : World) : Prop :=
  ∃ i q : Nat, i ≤ used.length ∧ iv = .int .i64 (i : Int) ∧ (∀ j u, j < i → used[j]? = some u → P u = false) ∧ wr = w1.drewN q
set_option maxRecDepth 100000 in
set_option maxHeartbeats 4000000 in
theorem index_any {w : World} {H : Nat → Prop} {dev : Nat} {used : List Pc} {AU : Option Addr} {cU : Nat} (hv : Vec w H 36 4 (.slice AU used.length cU) used.length (used.flatMap (pcCells dev))) (hul : used.length ≤ 1000000000) (d at_ len : Int) :
    Calls Tryd.prog 58 #[.slice AU used.length cU, .agg #[.int .i64 d, .int .i64 at_, .int .i64 len, .bool false]] w fun e w' => ∃ r, FindIs used (isP dev d at_ len) r ∧ e = .returned (.int .i64 (findI r)) ∧ Below w.heap.size w w' := by
  have HV := Lib.hid hv
  clear hv
  go_enter Tryd.func58, Tryd.ntmps58
  go_wp2_with fail
  have hb1 : Below w.heap.size w (w.alloc (.cells #[.int .i64 d, .int .i64 at_, .int .i64 len, .bool false] 36)) := below_al' _
  have HB1 := Lib.hid hb1
  have hk := Blk.new w 36 #[.int .i64 d, .int .i64 at_, .int .i64 len, .bool false]
  have HK := Lib.hid hk
  have HV1 := Lib.hid (HV.out.below hb1)
  clear hb1 hk HV
  have hltb := HK.out.lt
  generalize w.alloc (.cells #[.int .i64 d, .int .i64 at_, .int .i64 len, .bool false] 36) = w1 at *
  go_wp2_with fail
  go_loopw [8] (fun iv wr => IdxR used (isP dev d at_ len) w1 iv wr) (fun iv _ => used.length - (intOf iv).toNat)
  case atStart => exact ⟨0, 0, by omega, rfl, fun j u hj => by omega, rfl⟩
  case round =>
    obtain ⟨i, q, hi, rfl, hpre, rfl⟩ := hrel
    have HPRE := Lib.hid hpre
    clear hpre
    by_cases hlt' : i < used.length
    · have hiI : (i : Int) < (used.length : Int) := by omega
      obtain ⟨u, hu⟩ : ∃ u, used[i]? = some u := ⟨_, List.getElem?_eq_getElem hlt'⟩
      obtain ⟨g, hA, e0⟩ := HV1.out.cell (i * 4) _ (by rw [show i * 4 = i * 4 + 0 from rfl, used_get hu (by decide)]; rfl)
      subst hA
      have e1 := HV1.out.at_ (show _ = some (.int .i64 (u.1 : Int)) by rw [used_get (j := 1) hu (by decide)]; rfl)
      have e2 := HV1.out.at_ (show _ = some (.int .i64 (u.2 : Int)) by rw [used_get (j := 2) hu (by decide)]; rfl)
      have e3 := HV1.out.at_ (show _ = some (.bool false) by rw [used_get (j := 3) hu (by decide)]; rfl)
      have k0 := (HK.out.cell 0).trans (show _ = some (.int .i64 d) from rfl)
      have k1 := (HK.out.cell 1).trans (show _ = some (.int .i64 at_) from rfl)
      have k2 := (HK.out.cell 2).trans (show _ = some (.int .i64 len) from rfl)
      have k3 := (HK.out.cell 3).trans (show _ = some (.bool false) from rfl)
      have HU := Lib.hid hu
      have HQ := Lib.hid (show w1.heap.size = (w1.drewN q).heap.size from rfl)
      clear hu
      have heq := fun W => eql_pc d at_ len false (dev : Int) (u.1 : Int) (u.2 : Int) false W
      have hgd := fun W x y xs ys => guard_pc .eql x y xs ys W
      obtain ⟨r, hr⟩ : ∃ r, pcEq d at_ len false (dev : Int) (u.1 : Int) (u.2 : Int) false = r := ⟨_, rfl⟩
      have HR := Lib.hid (show isP dev d at_ len u = r from hr)
      rw [hr] at heq
      clear hr
      go_wp2_with fail
      go_quiet (fail)
      cases r with
      | true =>
        go_wp2_with fail
        go_ret
        exact ⟨some i, ⟨⟨u, HU.out, HR.out⟩, HPRE.out⟩, rfl, below_drewN (below_drewN HB1.out q) _⟩
      | false =>
        go_wp2_with fail
        go_roundw
        case rel => exact ⟨i + 1, q + nq, by omega, by simp, fun j v hj hv => by
          rcases Nat.lt_or_ge j i with h | h
          · exact HPRE.out j v h hv
          · obtain rfl : j = i := by omega
            rw [HU.out] at hv
            injection hv with hv
            rw [← hv]
            exact HR.out, rfl⟩
        case measure => simp [intOf]; omega
    · have hiI : ¬ (i : Int) < (used.length : Int) := by omega
      go_wp2_with fail
      go_ret
      refine ⟨none, fun u hu => ?_, rfl, below_drewN HB1.out q⟩
      obtain ⟨j, hj⟩ := List.getElem?_of_mem hu
      exact HPRE.out j u (by have := (List.getElem?_eq_some_iff.1 hj).1; omega) hj
set_option maxRecDepth 100000 in
set_option maxHeartbeats 4000000 in
theorem find_any {w : World} {H : Nat → Prop} {h a dev : Nat} {segs : List Nat} {used : List Pc} {S U : Value} (x : HotB w H h a dev segs used S U) (hul : used.length ≤ 1000000000) (d at_ len : Int) (b : Bool) :
    Calls Tryd.prog 38 #[.pointer (some ⟨h, 0, none⟩), .agg #[.int .i64 d, .int .i64 at_, .int .i64 len, .bool b]] w fun e w' => ∃ r, FindIs used (isP dev d at_ len) r ∧ e = .returned (.int .i64 (findI r)) ∧ Below w.heap.size w w' := by
  have HX := Lib.hid x
  obtain ⟨AU, cU, rfl⟩ := x.used.shape
  clear x
  go_enter Tryd.func38, Tryd.ntmps38
  go_wp2_with fail
  have hb1 : Below w.heap.size w (w.alloc (.cells #[.int .i64 d, .int .i64 at_, .int .i64 len, .bool false] 36)) := below_al' _
  have HB1 := Lib.hid hb1
  have HK := Lib.hid (Blk.new w 36 #[.int .i64 d, .int .i64 at_, .int .i64 len, .bool false])
  have HX1 := Lib.hid (HX.out.below hb1)
  clear hb1 HX
  generalize w.alloc (.cells #[.int .i64 d, .int .i64 at_, .int .i64 len, .bool false] 36) = w1 at *
  have c3 := HX1.out.c3
  have k0 := (HK.out.cell 0).trans (show _ = some (.int .i64 d) from rfl)
  have k1 := (HK.out.cell 1).trans (show _ = some (.int .i64 at_) from rfl)
  have k2 := (HK.out.cell 2).trans (show _ = some (.int .i64 len) from rfl)
  have k3 := (HK.out.cell 3).trans (show _ = some (.bool false) from rfl)
  have hlk := HK.out.lt
  have HI := Lib.hid (index_any (HX1.out.used.drew) hul d at_ len)
  refine Ord.region_ord [5] [0, 1, 2, 3, 4, 5, 6] (by kernel_rfl) (by kernel_rfl) (by kernel_rfl) (by kernel_rfl) (Ord.ord_run [0, 1, 2, 3, 4] [_, _, _, _, _] rfl (by kernel_rfl) ?_)
  go_wp2_with fail
  refine Ord.nx_ord (Ord.ord_one rfl ?_)
  go_wp2_with fail
  refine HI.out.mono ?_
  rintro e w2 ⟨r, hr, rfl, hb2⟩
  have HR := Lib.hid hr
  have HB2 := Lib.hid hb2
  clear hr hb2
  go_wp2_with fail
  refine Ord.nx_and HB2.out (Ord.ord_all [_] rfl (by kernel_rfl) ?_)
  go_wp2_with fail
  refine Ord.nx_end ?_
  go_wp2_with fail
  go_ret
  exact ⟨r, HR.out, rfl, (below_drewN HB1.out 1).trans ((show Below w1.heap.size (w1.drewN 1) w2 from HB2.out).mono HB1.out.size)⟩
end Go.Proofs.YtgcckfaljfkkhaaDoor.Hot
/- 'slices.Delete' of one place in use. -/
namespace Go.Proofs.YtgcckfaljfkkhaaDoor.Hot
open Go Go.RowKit Mem Pl
theorem flat_len4 (dev : Nat) (l : List Pc) : (l.flatMap (pcCells dev)).length = l.length * 4 := by
  induction l with
  | nil => rfl
  | cons x l ih => rw [List.flatMap_cons, List.length_append, ih, List.length_cons, show (pcCells dev x).length = 4 from rfl]; omega
theorem flat_take (dev : Nat) : ∀ (l : List Pc) (k : Nat), (l.flatMap (pcCells dev)).take (k * 4) = (l.take k).flatMap (pcCells dev)
  | [], k => by simp
  | x :: l, 0 => by simp
  | x :: l, k + 1 => by
    rw [List.flatMap_cons, List.take_succ_cons, List.flatMap_cons, ← flat_take dev l k, show (k + 1) * 4 = (pcCells dev x).length + k * 4 by rw [show (pcCells dev x).length = 4 from rfl]; omega, List.take_length_add_append]
theorem flat_drop (dev : Nat) : ∀ (l : List Pc) (k : Nat), (l.flatMap (pcCells dev)).drop (k * 4) = (l.drop k).flatMap (pcCells dev)
  | [], k => by simp
  | x :: l, 0 => by simp
  | x :: l, k + 1 => by
    rw [List.flatMap_cons, List.drop_succ_cons, ← flat_drop dev l k, show (k + 1) * 4 = (pcCells dev x).length + k * 4 by rw [show (pcCells dev x).length = 4 from rfl]; omega, List.drop_length_add_append]
/-- 'append' onto a part of a row from what lies behind in it. -/
theorem wpList_append_shift {P : Program} {w : World} {ops : Array Oper} {rest : List Oper} {o : Oper} {a : Act} {Q : Exit → Act → World → Prop} (hgd : o.guard = none) (s x : Operand) (t : TypeId)
    (ho : o.op = .call { callee := .builtin .append, args := #[s, x], argTypes := #[t, t] }) {e : TypeId} {size bytes : Nat} {z : Value} (T : ElTy P t e size bytes z)
    (g n c : Nat) (ad : Addr) (m d : Nat) (cur news : List Value) (hs : a.eval s = .slice (some ⟨g, 0, none⟩) n c) (hx : a.eval x = .slice (some ad) m d) (hb : Blk w g e cur.toArray) (hl : news.length = m * size)
    (hnews : ∀ j u, news[j]? = some u → w.cell? (ad.add j) = some u) (h1 : ∀ u ∈ news, u.oneCell' = true) (hroom : n + m ≤ c) (hcs : cur.length = c * size)
    (h : ∀ w', Blk w' g e (cur.take (n * size) ++ news ++ cur.drop (n * size + news.length)).toArray → w.grownBy w' (some g) → w'.heap.size = w.heap.size → wpList P ops Q rest (a.put o.dst (.slice (some ⟨g, 0, none⟩) (n + m) c)) w') : wpList P ops Q (o :: rest) a w :=
  wpList_plain hgd fun _ hK => by
    obtain ⟨i, hi, hz, hsz, hby⟩ := T.info
    subst hsz
    have hle : n * i.size + news.length ≤ cur.length := by rw [hl, hcs, ← Nat.add_mul]; exact Nat.mul_le_mul_right _ hroom
    have hr := run_append_room_cells (P := P) w t o.type e i T.ht hi g 0 n c ad m d news hl hnews h1 hroom (fun j hj => by rw [Nat.zero_add, hb.cell]; simp; omega) (fun j _ => hb.frozen _)
    obtain ⟨k1, k2, k3⟩ := setCells_blk news cur (n * i.size) w hb hle
    rw [Nat.zero_add] at hr
    unfold Oper.wp execOp
    simp only [ho, resolve, invoke, builtin, Sem.run_bind, Sem.run_pure, Result.andThen_ok, List.map_toArray, List.map_cons, List.map_nil, hs, hx, hr]
    exact hK _ _ (h _ k1 k2 k3)
set_option maxRecDepth 100000 in
set_option maxHeartbeats 4000000 in
theorem delete_any {w : World} {H : Nat → Prop} {dev : Nat} {used : List Pc} {AU : Option Addr} {c : Nat} (hv : Vec w H 36 4 (.slice AU used.length c) used.length (used.flatMap (pcCells dev))) (hul : used.length ≤ 1000000000) (i : Nat) (hi : i < used.length) :
    Calls Tryd.prog 39 #[.slice AU used.length c, .int .i64 (i : Int), .int .i64 ((i + 1 : Nat) : Int)] w fun e w' => ∃ g, AU = some ⟨g, 0, none⟩ ∧ H g ∧ (∃ cs, w.heap[g]? = some (Obj.cells cs 36 (0, 0))) ∧ e = .returned (.slice AU (used.length - 1) c) ∧
      Vec w' H 36 4 (.slice AU (used.length - 1) c) (used.length - 1) ((used.eraseIdx i).flatMap (pcCells dev)) ∧ w.grownBy w' (some g) := by
  obtain ⟨g, c', cur, e, hf, hh, hnc, hcm, hcs, htk⟩ := hv.form (by omega)
  injection e with e1 _ e2
  subst e1 e2
  have HB : Hid (Blk w g 36 cur.toList.toArray) := Lib.hid (show w.heap[g]? = some (.cells cur.toList.toArray _ (0, 0)) from hh)
  have HTK := Lib.hid htk
  have HCS : Hid (cur.toList.length = c * 4) := Lib.hid (by simpa using hcs)
  have HF := Lib.hid hf
  have hiI : (i : Int) < (used.length : Int) := by omega
  have hi1 : ((i + 1 : Nat) : Int) = (i : Int) + 1 := by omega
  have hi2 : (i : Int) + 1 ≤ (used.length : Int) := by omega
  have hncI : (used.length : Int) ≤ (c : Int) := by omega
  have hic : (i : Int) ≤ (c : Int) := by omega
  have hii : ((i : Int) == (i : Int) + 1) = false := by rw [beq_eq_false_iff_ne]; omega
  have HHH : Hid (∃ cs, w.heap[g]? = some (Obj.cells cs 36 (0, 0))) := Lib.hid ⟨cur, hh⟩
  clear hv hf hh htk hcs
  rw [hi1]
  clear hi1
  unfold maxLen at hcm
  go_enter Tryd.func39, Tryd.ntmps39
  go_wp2_with fail
  have HNEWS : Hid (((used.drop (i + 1)).flatMap (pcCells dev)).length = (used.length - (i + 1)) * 4) := Lib.hid (by rw [flat_len4, List.length_drop])
  have HONE : Hid (∀ u ∈ (used.drop (i + 1)).flatMap (pcCells dev), u.oneCell' = true) := Lib.hid (fun u hu => by
    obtain ⟨y, _, hy⟩ := List.mem_flatMap.1 hu
    exact pc_one dev y u hy)
  have HGET : Hid (∀ j u, ((used.drop (i + 1)).flatMap (pcCells dev))[j]? = some u → w.cell? ⟨g, (i + 1) * 4 + j, none⟩ = some u) := Lib.hid (fun j u hu => by
    rw [HB.out.cell]
    rw [← flat_drop, List.getElem?_drop, ← HTK.out, List.getElem?_take] at hu
    split at hu
    · rw [List.getElem?_toArray]; exact hu
    · cases hu)
  have HDONE : Hid (∀ w' : World, Blk w' g 36 (cur.toList.take (i * 4) ++ (used.drop (i + 1)).flatMap (pcCells dev) ++ cur.toList.drop (i * 4 + ((used.drop (i + 1)).flatMap (pcCells dev)).length)).toArray →
      ∀ w'' : World, Blk w'' g 36 ((cur.toList.take (i * 4) ++ (used.drop (i + 1)).flatMap (pcCells dev) ++ cur.toList.drop (i * 4 + ((used.drop (i + 1)).flatMap (pcCells dev)).length)).take ((used.length - 1) * 4) ++ (Builtin.zeroCells (Value.cells (.agg #[.int .i64 0, .int .i64 0, .int .i64 0, .bool false])) (used.length - (used.length - 1))).toList ++
        (cur.toList.take (i * 4) ++ (used.drop (i + 1)).flatMap (pcCells dev) ++ cur.toList.drop (i * 4 + ((used.drop (i + 1)).flatMap (pcCells dev)).length)).drop ((used.length - 1) * 4 + (used.length - (used.length - 1)) * 4)).toArray →
      Vec w'' H 36 4 (.slice (some ⟨g, 0, none⟩) (used.length - 1) c) (used.length - 1) ((used.eraseIdx i).flatMap (pcCells dev))) := Lib.hid (fun w' _ w'' hb => by
    have hl := HCS.out
    have hn := HNEWS.out
    have hz : (Builtin.zeroCells (Value.cells (.agg #[.int .i64 0, .int .i64 0, .int .i64 0, .bool false])) (used.length - (used.length - 1))).toList.length = (used.length - (used.length - 1)) * 4 := zeroCells_len _ _
    refine ⟨_, _, rfl, by rw [flat_len4, List.length_eraseIdx_of_lt hi], .inr ⟨g, _, rfl, HF.out, hb, by omega, by unfold maxLen; omega, ?_, ?_⟩⟩
    · simp only [List.size_toArray, List.length_append, List.length_take, List.length_drop, hz, hl, hn]
      omega
    · have e1 : cur.toList.take (i * 4) = (used.take i).flatMap (pcCells dev) := by
        rw [← flat_take, ← HTK.out, List.take_take, Nat.min_eq_left (by omega)]
      have e2 : (cur.toList.take (i * 4) ++ (used.drop (i + 1)).flatMap (pcCells dev)) = (used.eraseIdx i).flatMap (pcCells dev) := by
        rw [e1, ← List.flatMap_append, ← List.eraseIdx_eq_take_drop_succ]
      have e3 : ((used.eraseIdx i).flatMap (pcCells dev)).length = (used.length - 1) * 4 := by rw [flat_len4, List.length_eraseIdx_of_lt hi]
      rw [e2]
      simp only [List.append_assoc]
      rw [List.take_append_of_le_length (by rw [List.length_take, List.length_append, e3]; omega), List.take_take, Nat.min_self, ← e3, List.take_left'] <;> rfl)
  by_cases hcc : i + 1 = c
  · subst hcc
    refine Ord.region_ord [] [0, 1, 2, 3, 4, 5, 6, 7] (by kernel_rfl) (by kernel_rfl) (by kernel_rfl) (by kernel_rfl) (Ord.ord_all [_, _, _, _, _, _, _, _] rfl (by kernel_rfl) ?_)
    go_wp2_with fail
    refine Ord.nx_end ?_
    have hnl : used.length = i + 1 := by omega
    have HE : Hid (cur.toList.take (i * 4) ++ (used.drop (i + 1)).flatMap (pcCells dev) ++ cur.toList.drop (i * 4 + ((used.drop (i + 1)).flatMap (pcCells dev)).length) = cur.toList) := Lib.hid (by
      rw [List.drop_eq_nil_of_le (by omega : used.length ≤ i + 1)]
      simp)
    have HN1 : Hid (used.length - 1 = i) := Lib.hid (by omega)
    go_wp2_with
      (refine wpList_clear_in rfl (.tmp 31) 22 rfl placeTy pc0_one g (i * 4) 1 1 36 cur.toList rfl (by decide) HB.out.drew (by have h := HCS.out; omega) ?_
       intro w6 hb6 hg6 hz6
       have HB6 := Lib.hid hb6
       have HG6 := Lib.hid hg6
       clear hb6 hg6 hz6)
    go_wp2_with fail
    go_ret
    have hd := HDONE.out w.drew (by rw [HE.out]; exact HB.out.drew)
    rw [HE.out, HN1.out, show used.length - i = 1 by omega] at hd
    rw [HN1.out]
    exact ⟨g, rfl, HF.out, HHH.out, rfl, hd _ HB6.out, grown_trans (⟨rfl, rfl, rfl, Nat.le_refl _, fun _ _ _ => rfl⟩ : w.grownBy w.drew (some g)) HG6.out⟩
  · have hne : ¬ c = i + 1 := fun e => hcc e.symm
    have hcc2 : (i : Int) + 1 ≤ (c : Int) := by omega
    have hneI : ¬ (c : Int) = (i : Int) + 1 := by omega
    refine Ord.region_ord [] [0, 1, 2, 3, 4, 5, 6, 7] (by kernel_rfl) (by kernel_rfl) (by kernel_rfl) (by kernel_rfl) (Ord.ord_all [_, _, _, _, _, _, _, _] rfl (by kernel_rfl) ?_)
    go_wp2_with
      (refine wpList_append_shift rfl (.tmp 22) (.tmp 25) _ rfl placeTy g i c ⟨g, (i + 1) * 4, none⟩ (used.length - (i + 1)) _ cur.toList ((used.drop (i + 1)).flatMap (pcCells dev)) rfl rfl HB.out.drew ?c0 ?c1 HONE.out ?c2 HCS.out ?_
       case c0 => rw [HNEWS.out]
       case c1 => intro j u hu; rw [add_off]; exact HGET.out j u hu
       case c2 => omega
       intro w5 hb5 hg5 hz5
       have HB5 := Lib.hid hb5
       have HG5 := Lib.hid hg5
       have HZ5 := Lib.hid hz5
       clear hb5 hg5 hz5
       rw [show i + (used.length - (i + 1)) = used.length - 1 by omega])
    refine Ord.nx_end ?_
    go_wp2_with
      (refine wpList_clear_in rfl (.tmp 31) 22 rfl placeTy pc0_one g ((used.length - 1) * 4) (used.length - (used.length - 1)) (c - (used.length - 1)) 36 (cur.toList.take (i * 4) ++ (used.drop (i + 1)).flatMap (pcCells dev) ++ cur.toList.drop (i * 4 + ((used.drop (i + 1)).flatMap (pcCells dev)).length)) rfl (by omega) HB5.out (by have h1 := HCS.out; have h2 := HNEWS.out; simp only [List.length_append, List.length_take, List.length_drop, h1, h2]; omega) ?_
       intro w6 hb6 hg6 hz6
       have HB6 := Lib.hid hb6
       have HG6 := Lib.hid hg6
       have HZ6 := Lib.hid hz6
       clear hb6 hg6 hz6)
    go_wp2_with fail

    go_ret
    exact ⟨g, rfl, HF.out, HHH.out, rfl, HDONE.out w5 HB5.out _ HB6.out, grown_trans (⟨rfl, rfl, rfl, Nat.le_refl _, fun _ _ _ => rfl⟩ : w.grownBy w.drew (some g)) (grown_trans HG5.out HG6.out)⟩
end Go.Proofs.YtgcckfaljfkkhaaDoor.Hot
/- The hot disk's 'Free': a place is given up. -/
namespace Go.Proofs.YtgcckfaljfkkhaaDoor.Hot
open Go Go.RowKit Mem Pl
theorem isP_true {dev : Nat} {d at_ len : Int} {u : Pc} (h : isP dev d at_ len u = true) : d = (dev : Int) ∧ at_ = (u.1 : Int) ∧ len = (u.2 : Int) := by
  unfold isP pcEq at h
  simp only [Bool.and_eq_true, beq_iff_eq] at h
  exact ⟨h.1, h.2.1, h.2.2.1⟩
theorem isP_self (dev : Nat) (u : Pc) : isP dev (dev : Int) (u.1 : Int) (u.2 : Int) u = true := by
  unfold isP pcEq
  simp
/-- What is so of a hot disk. -/
structure HotOk (segs : List Nat) (used : List Pc) : Prop where
  sok : SegsOk used segs
  apart : Apart used
  ok : ∀ u ∈ used, okP segs.length u
  few : segs.length ≤ 100000
theorem HotOk.lt {segs : List Nat} {used : List Pc} (h : HotOk segs used) {u : Pc} (hu : u ∈ used) : u.1 < 1000000000 := by
  have h1 := (h.ok u hu).2.2.1
  have := h.few
  omega
theorem HotB.pop {w w' : World} {H : Nat → Prop} {h a dev g : Nat} {segs : List Nat} {used vsed : List Pc} {S U U' : Value} {cs : Array Value} (x : HotB w H h a dev segs used S U) (hg : w.grownBy w' (some g))
    (hr : w.heap[g]? = some (Obj.cells cs 36 (0, 0))) (hHg : H g) (hv : Vec w' H 36 4 U' vsed.length (vsed.flatMap (pcCells dev))) :
    HotB (w'.setCell ⟨h, 3, none⟩ U') H h a dev segs vsed S U' ∧ Blk w' h 73 #[.pointer (some ⟨a, 0, none⟩), .int .i64 (dev : Int), S, U] ∧ Mods w.heap.size H w (w'.setCell ⟨h, 3, none⟩ U') := by
  have hne : ∀ (k : Nat) (t : TypeId) (cs : Array Value), t ≠ 36 → w.heap[k]? = some (Obj.cells cs t (0, 0)) → some k ≠ some g := fun k t cs ht hh e => by
    injection e with e
    subst e
    rw [hh] at hr
    injection hr with hr
    injection hr with _ hr
    exact ht hr
  have hb : Blk w' h 73 #[.pointer (some ⟨a, 0, none⟩), .int .i64 (dev : Int), S, U] := x.blk.grown hg (hne h _ _ (by decide) x.blk)
  have hS := x.segs.heap (w' := w') fun g cs hh => (hg.block g (Array.getElem?_eq_some_iff.1 hh).1 (hne g _ _ (by decide) hh)).trans hh
  refine ⟨⟨by simpa using hb.set_ 3 U', x.own, hS.far (p := ⟨h, 3, none⟩) hb (by decide) U', hv.far (p := ⟨h, 3, none⟩) hb (by decide) U'⟩, hb, ?_⟩
  exact ((Mods.refl w.heap.size H w).grown hg (Nat.le_refl _) fun k e => by injection e with e; subst e; exact .inl hHg).setCell (.inl x.own) _
/-- What 'Free' leaves. -/
def FreeR (w : World) (H : Nat → Prop) (h a dev : Nat) (segs : List Nat) (used : List Pc) (r : Option Nat) (e : Ending) (w' : World) : Prop := match r with
  | none => e = .returned (.int .i64 31) ∧ Below w.heap.size w w'
  | some k => e = .returned (.int .i64 0) ∧ (∃ segs', segs'.length = segs.length ∧ HotOk segs' (used.eraseIdx k) ∧ HotAt w' H h a dev segs' (used.eraseIdx k)) ∧ Mods w.heap.size H w w'
set_option maxRecDepth 100000 in
set_option maxHeartbeats 4000000 in
theorem free_any {w : World} {H : Nat → Prop} {h a dev : Nat} {segs : List Nat} {used : List Pc} {S U : Value} (x : HotB w H h a dev segs used S U) (hok : HotOk segs used) (hul : used.length ≤ 1000000000) (d at_ len : Int) (b : Bool) :
    Calls Tryd.prog 17 #[.pointer (some ⟨h, 0, none⟩), .agg #[.int .i64 d, .int .i64 at_, .int .i64 len, .bool b]] w fun e w' => ∃ r, FindIs used (isP dev d at_ len) r ∧ FreeR w H h a dev segs used r e w' := by
  have HX := Lib.hid x
  have HOK := Lib.hid hok
  clear x hok
  go_enter Tryd.func17, Tryd.ntmps17
  go_wp2_with fail
  have hb1 : Below w.heap.size w (w.alloc (.cells #[.int .i64 d, .int .i64 at_, .int .i64 len, .bool b] 36)) := below_al' _
  have HB1 := Lib.hid hb1
  have HK := Lib.hid (Blk.new w 36 #[.int .i64 d, .int .i64 at_, .int .i64 len, .bool b])
  have HX1 := Lib.hid (HX.out.below hb1)
  have HV0 := Lib.hid HX.out.used
  have HHL := Lib.hid HX.out.blk.lt
  clear hb1 HX
  generalize w.alloc (.cells #[.int .i64 d, .int .i64 at_, .int .i64 len, .bool b] 36) = w1 at *
  have k0 := (HK.out.cell 0).trans (show _ = some (.int .i64 d) from rfl)
  have k1 := (HK.out.cell 1).trans (show _ = some (.int .i64 at_) from rfl)
  have k2 := (HK.out.cell 2).trans (show _ = some (.int .i64 len) from rfl)
  have k3 := (HK.out.cell 3).trans (show _ = some (.bool b) from rfl)
  go_wp2_with fail
  refine (find_any HX1.out hul d at_ len b).mono ?_
  rintro e w2 ⟨r, hr, rfl, hb2⟩
  have HR := Lib.hid hr
  have HB2 := Lib.hid (HB1.out.trans (hb2.mono HB1.out.size))
  have HX2 := Lib.hid (HX1.out.below hb2)
  have HK2 := Lib.hid (HK.out.below_ hb2)
  clear hr hb2 HX1 HK HB1 k0 k1 k2 k3
  cases r with
  | none =>
    unfold findI
    go_wp2_with fail
    go_ret
    exact ⟨none, HR.out, rfl, HB2.out⟩
  | some k =>
    obtain ⟨⟨u, hu, hp⟩, _⟩ := HR.out
    obtain ⟨rfl, rfl, rfl⟩ := isP_true hp
    have hkl := (List.getElem?_eq_some_iff.1 hu).1
    have hmem : u ∈ used := List.mem_of_getElem? hu
    have HU := Lib.hid hu
    have HOU := Lib.hid (HOK.out.ok u hmem)
    have hu1 := HOK.out.lt hmem
    clear hu hp hmem
    have hneg : ¬ (k : Int) < 0 := by omega
    have c3 := HX2.out.c3
    obtain ⟨AU, cU, rfl⟩ := HX2.out.used.shape
    have hk1 : (k : Int) + 1 = ((k + 1 : Nat) : Int) := by omega
    have HD := Lib.hid (delete_any HX2.out.used hul k hkl)
    rw [← hk1] at HD
    clear hk1
    have hkw : IntKind.i64.wrap ((k : Int) + 1) = (k : Int) + 1 := IntWalk.i64_in _ (by omega)
    unfold findI
    go_wp2_with fail
    refine HD.out.mono ?_
    rintro e w3 ⟨g, hA, hHg, ⟨cs, hcs⟩, rfl, hv3, hg3⟩
    subst hA
    obtain ⟨hx4, hb4, hm4⟩ := HX2.out.pop (vsed := used.eraseIdx k) hg3 hcs hHg (by rw [List.length_eraseIdx_of_lt hkl]; exact hv3)
    have HX4 := Lib.hid hx4
    have HM4 := Lib.hid hm4
    have e3 := (hb4.cell 3).trans (show _ = some (.slice (some ⟨g, 0, none⟩) used.length cU) from rfl)
    have z3 := hb4.frozen 3
    have hk3 : some w.heap.size ≠ some g := fun e => by
      injection e with e
      obtain ⟨g', _, _, e5, _, hh, _⟩ := HV0.out.form (by omega)
      injection e5 with e5
      injection e5 with e5
      injection e5 with e5
      have := (Array.getElem?_eq_some_iff.1 hh).1
      omega
    have HK3 := Lib.hid (HK2.out.grown hg3 hk3)
    clear c3 hv3 hg3 hcs hx4 hb4 hm4 HD HX2
    go_wp2_with fail
    have hszw : w2.heap.size ≤ (w3.setCell ⟨h, 3, none⟩ (.slice (some ⟨g, 0, none⟩) (used.length - 1) cU)).heap.size := HM4.out.size
    have HK4 := Lib.hid (HK3.out.far (p := ⟨h, 3, none⟩) (fun e => by
      have := HX4.out.blk
      have h2 := HK3.out.far (p := ⟨h, 3, none⟩)
      have hb := HX4.out.blk.lt
      have e' : w.heap.size = h := e
      have := HHL.out
      omega) (.slice (some ⟨g, 0, none⟩) (used.length - 1) cU))
    clear e3 z3 hk3 HK3 HV0 hkw
    generalize w3.setCell ⟨h, 3, none⟩ (.slice (some ⟨g, 0, none⟩) (used.length - 1) cU) = w4 at *
    obtain ⟨s, hs⟩ : ∃ s, segs[u.1 / 16]? = some s := ⟨_, List.getElem?_eq_getElem HOU.out.2.2.1⟩
    have hs6 := (HOK.out.sok _ s hs).1
    have hmk := mask_lt HOU.out
    have hand := u16_andNot_nat s (maskM u) hs6 hmk
    have HFO := Lib.hid (free_ok HOK.out.sok HOK.out.apart HOU.out HU.out hs)
    have HS := Lib.hid hs
    obtain ⟨gS, cS, rfl, hsc, hHS, hsz⟩ := HX4.out.seg hs
    unfold u16V at hsc
    have c2 := HX4.out.c2
    have k0 := (HK4.out.cell 0).trans (show _ = some (.int .i64 (dev : Int)) from rfl)
    have k1 := (HK4.out.cell 1).trans (show _ = some (.int .i64 (u.1 : Int)) from rfl)
    have k2 := (HK4.out.cell 2).trans (show _ = some (.int .i64 (u.2 : Int)) from rfl)
    have k3 := (HK4.out.cell 3).trans (show _ = some (.bool b) from rfl)
    have hidxI : ((u.1 : Int) / 16) < (segs.length : Int) := by have : u.1 / 16 < segs.length := HOU.out.2.2.1; omega
    have hidx0 : 0 ≤ (u.1 : Int) / 16 := by omega
    have hwr : IntKind.i64.wrap ((u.1 : Int) / 16) = (u.1 : Int) / 16 := IntWalk.i64_in _ (by omega)
    have HM := Lib.hid (fun w' : World => mask_any w' (.int .i64 (dev : Int)) (.bool b) u _ HOU.out)
    have HXS := Lib.hid (HX4.out.setSeg (i := u.1 / 16) HOU.out.2.2.1 (s &&& (65535 - maskM u)))
    clear hs
    refine Ord.region_ordM [10] [6] [0, 1, 2, 3, 4, 5, 9, 6, 7, 8, 10, 11, 12, 13] (by kernel_rfl) (by kernel_rfl) (by kernel_rfl) (by kernel_rfl) (Ord.ord_run [0, 1, 2, 3, 4, 5, 9] [_, _, _, _, _, _, _] rfl (by kernel_rfl) ?_)
    go_wp2_with fail
    refine Ord.nx_ord (Ord.ord_pure (.int .i64 ((u.1 : Int) / 16)) rfl (by kernel_rfl) rfl (fun w' => by first | (go_simp; done) | (go_simp; exact hwr)) ?_)
    simp only [Act.put, List.setIfInBounds_toArray]
    refine Ord.ord_run [7, 8] [_, _] rfl (by kernel_rfl) ?_
    go_wp2_with fail
    refine Ord.nx_ord (Ord.ord_oneM rfl (by kernel_rfl) ?_)
    go_wp2_with fail
    refine (HM.out _).mono ?_
    rintro e w5 ⟨rfl, hb5⟩
    have HB5 := Lib.hid hb5
    have hb5' : Below w4.heap.size w4 w5 := Below.trans (show Below w4.heap.size w4 w4.drew from below_drewN (Below.refl _ _) 1) (show Below w4.heap.size w4.drew w5 from hb5)
    have HX5 := Lib.hid (HX4.out.below hb5')
    have HM5 := Lib.hid ((HM4.out.then_below hb5' hszw))
    obtain ⟨g', c', e1, hsc5, hHg5, hsz5⟩ := HX5.out.seg HS.out
    injection e1 with e1 _ e2
    injection e1 with e1
    injection e1 with e1
    subst e1 e2
    unfold u16V at hsc5 ⊢
    clear hb5 hb5' hsc hsz k0 k1 k2 k3 HXS
    have HX6 := Lib.hid (HX5.out.setSeg (i := u.1 / 16) HOU.out.2.2.1 (s &&& (65535 - maskM u)))
    have HM6 := Lib.hid ((Mods.of_below (F := H) HB2.out).trans ((HM5.out.mono HB2.out.size fun _ _ h => h).setCell (p := ⟨gS, u.1 / 16, none⟩) (.inl hHg5) (u16V (s &&& (65535 - maskM u)))))
    unfold u16V at HX6 HM6
    go_wp2_with fail
    refine Ord.nx_and HB5.out (Ord.ord_all [_, _, _] rfl (by kernel_rfl) ?_)
    go_wp2_with fail
    refine Ord.nx_end ?_
    go_wp2_with fail
    go_ret
    refine ⟨some k, HR.out, rfl, ⟨_, by rw [List.length_set], ?_, HX6.out.at_⟩, HM6.out⟩
    have hfo := HFO.out
    rw [compl_eq hmk] at hfo
    refine ⟨hfo, HOK.out.apart.erase k, fun v hv => ?_, by rw [List.length_set]; exact HOK.out.few⟩
    rw [List.length_set]
    exact HOK.out.ok v (List.mem_of_mem_eraseIdx hv)
end Go.Proofs.YtgcckfaljfkkhaaDoor.Hot
/- What an object is on the hot disk: the sectors of its frame. No program. -/
namespace Go.Proofs.YtgcckfaljfkkhaaDoor.Hot
open Go Go.RowKit Mem Pl Disk Crc _root_.Go.Proofs.YtgcckfaljfkkhaaDoor.Frame
/-- An object's sectors, one behind the other. -/
def textM (bs : List UInt8) : List UInt8 := pack 1 bs ++ List.replicate (64 * costM bs.length - (bs.length + 9)) 0
theorem cost_room (n : Nat) : n + 9 ≤ 64 * costM n := by unfold costM; omega
theorem cost_le {n : Nat} (h : n ≤ 512) : 1 ≤ costM n ∧ costM n ≤ 9 := by unfold costM; omega
theorem textM_len (bs : List UInt8) : (textM bs).length = 64 * costM bs.length := by
  unfold textM
  rw [List.length_append, pack_length, List.length_replicate]
  have := cost_room bs.length
  omega
def chunkM (t : List UInt8) (j : Nat) : List UInt8 := (t.drop (64 * j)).take 64
theorem chunk_len {t : List UInt8} {m j : Nat} (ht : t.length = 64 * m) (hj : j < m) : (chunkM t j).length = 64 := by
  unfold chunkM
  rw [List.length_take, List.length_drop]
  omega
/-- What is written. -/
def wsM (at_ : Nat) (t : List UInt8) (i : Nat) : Ws := (List.range i).map fun j => (at_ + j, chunkM t j)
theorem wsM_next (at_ : Nat) (t : List UInt8) (i : Nat) : wsM at_ t i ++ [(at_ + i, chunkM t i)] = wsM at_ t (i + 1) := by
  unfold wsM
  rw [List.range_succ]
  simp
theorem wsM_in {at_ : Nat} {t : List UInt8} {i : Nat} {y : Nat × List UInt8} (h : y ∈ wsM at_ t i) : at_ ≤ y.1 ∧ y.1 < at_ + i := by
  obtain ⟨j, hj, rfl⟩ := List.mem_map.1 h
  have := List.mem_range.1 hj
  exact ⟨by show at_ ≤ at_ + j; omega, by show at_ + j < at_ + i; omega⟩
/-- A place has a text. -/
def Holds (H : List (List UInt8)) (x : Pc) (t : List UInt8) : Prop := ∀ j, j < x.2 → H[x.1 + j]? = some (chunkM t j)
theorem wsM_get (at_ : Nat) (t : List UInt8) : ∀ (i : Nat) (H : List (List UInt8)), at_ + i ≤ H.length → ∀ j, j < i → (setAll (wsM at_ t i) H)[at_ + j]? = some (chunkM t j)
  | 0, H, _, j, hj => by omega
  | i + 1, H, hl, j, hj => by
    rw [← wsM_next, setAll_append]
    show ((setAll (wsM at_ t i) H).set (at_ + i) (chunkM t i))[at_ + j]? = _
    by_cases h : j = i
    · subst h
      rw [List.getElem?_set_self (by rw [setAll_len]; omega)]
    · rw [List.getElem?_set_ne (by omega)]
      exact wsM_get at_ t i H (by omega) j (by omega)
theorem Holds.wrote {H : List (List UInt8)} {at_ m : Nat} (t : List UInt8) (h : at_ + m ≤ H.length) : Holds (setAll (wsM at_ t m) H) (at_, m) t := fun j hj => wsM_get at_ t m H h j hj
/-- Others keep theirs. -/
theorem Holds.far {H : List (List UInt8)} {x : Pc} {t : List UInt8} (h : Holds H x t) {ws : Ws} (hw : ∀ y ∈ ws, ¬ (x.1 ≤ y.1 ∧ y.1 < x.1 + x.2)) : Holds (setAll ws H) x t := fun j hj => by
  rw [setAll_far ws _ H fun y hy e => hw y hy ⟨by omega, by omega⟩]
  exact h j hj
/-- The sectors make the text. -/
def joinM (t : List UInt8) : Nat → List UInt8
  | 0 => []
  | i + 1 => joinM t i ++ chunkM t i
theorem joinM_eq (t : List UInt8) : ∀ i, joinM t i = t.take (64 * i)
  | 0 => by simp [joinM]
  | i + 1 => by
    unfold joinM chunkM
    rw [joinM_eq t i, show 64 * (i + 1) = 64 * i + 64 by omega, List.take_add]
theorem joinM_all {t : List UInt8} {m : Nat} (h : t.length = 64 * m) : joinM t m = t := by rw [joinM_eq, List.take_of_length_le (by omega)]
theorem unpack_text {bs : List UInt8} (h : bs.length ≤ 512) : unpackM (textM bs) = some (1, bs, List.replicate (64 * costM bs.length - (bs.length + 9)) 0) := by
  unfold textM
  exact unpack_pack 1 bs _ (by omega)
end Go.Proofs.YtgcckfaljfkkhaaDoor.Hot
/- The walks of package crc and of its reference: each function once, over any bytes that are read in memory. -/
namespace Go.Proofs.YtgcckfaljfkkhaaDoor.Crc
open Go.RowKit Mem
/-- The table of sums lies where it was laid. -/
def Tab (w : World) : Prop := ∀ i, i < 16 → w.cell? ⟨1, i, none⟩ = some (.int .u32 (U (nib i)))
theorem Tab.below {w w' : World} {B : Nat} (h : Tab w) (hb : Below B w w') (hB : 1 < B) : Tab w' := fun i hi => (hb.cell (p := ⟨1, i, none⟩) hB).trans (h i hi)
theorem Tab.same {w w' : World} (h : Tab w) (hw : ∀ o, w'.cell? ⟨1, o, none⟩ = w.cell? ⟨1, o, none⟩) : Tab w' := fun i hi => (hw i).trans (h i hi)

section
attribute [local go_sem] xor_z8 and_15 xor_shr4 not_bv
set_option maxHeartbeats 400000 in
theorem more_walk (s : BitVec 32) (A : Option Addr) (bs : List UInt8) (cap : Nat) (w : World) (hl : bs.length ≤ 9223372036854775807) (hb : BAt w A bs) (ht : Tab w) :
    Calls Tryd.prog 63 #[.int .u32 (U s), .slice A bs.length cap] w fun e w' => e = .returned (.int .u32 (U (~~~ (bs.foldl byteT (~~~ s))))) ∧ w = w' := by
  have HB := Lib.hid hb
  have HT := Lib.hid ht
  clear hb ht
  go_enter Tryd.func63, Tryd.ntmps63
  go_wp2
  go_loop [5, 12] (fun r i => ∃ k : Nat, k ≤ bs.length ∧ i = .int .i64 k ∧ r = .int .u32 (U ((bs.take k).foldl byteT (~~~ s)))) (fun _ i => bs.length - (intOf i).toNat)
  case atStart => exact ⟨0, Nat.zero_le _, rfl, rfl⟩
  case round =>
    obtain ⟨k, hk, rfl, rfl⟩ := hrel
    by_cases hlt : k < bs.length
    · have hs : (bs.take (k + 1)).foldl byteT (~~~ s) = half (half ((bs.take k).foldl byteT (~~~ s) ^^^ z8 bs[k])) := by
        rw [List.take_succ_eq_append_getElem hlt, List.foldl_append]; rfl
      generalize hr : (bs.take k).foldl byteT (~~~ s) = r at *
      have H := Lib.hid hs
      clear hs hr
      obtain ⟨ad, rfl, hc⟩ := HB.out (by omega)
      have hcell : w.cell? (ad.add k) = some (.int .u8 (V8 (bs.getD k 0))) := hc k hlt
      have l1 := lo4_lt (r ^^^ z8 bs[k])
      have h1 := HT.out (lo4 (r ^^^ z8 bs[k])) l1
      have l2 := lo4_lt (half (r ^^^ z8 bs[k]))
      have h2 := HT.out (lo4 (half (r ^^^ z8 bs[k]))) l2
      clear hc
      unfold half at l2 h2
      simp only [show ∀ x : BitVec 32, x.toNat % 16 = lo4 x from fun _ => rfl] at l2 h2
      go_wp2
      go_round
      case rel => exact ⟨k + 1, hlt, by go_num, by rw [H.out]; rfl⟩
      case measure => simp [intOf]; omega
    · obtain rfl : k = bs.length := by omega
      clear HB HT
      go_wp2
      go_ret
      exact ⟨rfl, rfl⟩
end
/-- 'crc.More'. -/
theorem more_any (s : BitVec 32) (A : Option Addr) (bs : List UInt8) (n cap : Nat) (w : World) (hn : bs.length = n) (hl : n ≤ 9223372036854775807) (hb : BAt w A bs) (ht : Tab w) :
    Calls Tryd.prog 63 #[.int .u32 (U s), .slice A n cap] w fun e w' => e = .returned (.int .u32 (U (more s bs))) ∧ w = w' := by
  subst hn
  refine (more_walk s A bs cap w hl hb ht).mono ?_
  rintro e w' ⟨rfl, rfl⟩
  rw [foldl_byteT]
  exact ⟨rfl, rfl⟩
/-- 'crc.Sum'. -/
theorem sum_any (A : Option Addr) (bs : List UInt8) (n cap : Nat) (w : World) (hn : bs.length = n) (hl : n ≤ 9223372036854775807) (hb : BAt w A bs) (ht : Tab w) :
    Calls Tryd.prog 53 #[.slice A n cap] w fun e w' => e = .returned (.int .u32 (U (more 0#32 bs))) ∧ w = w' := by
  have h := more_any 0#32 A bs n cap w hn hl hb ht
  rw [show U 0#32 = 0 from rfl] at h
  have HC := Lib.hid h
  clear h hn hb ht
  go_enter Tryd.func53, Tryd.ntmps53
  go_wp2_with (go_at_call 63; refine (HC.out).mono ?_; rintro e w' ⟨rfl, rfl⟩)
  go_ret
  exact ⟨rfl, rfl⟩
theorem sum_q (A : Option Addr) (bs : List UInt8) (n cap : Nat) (w : World) (hn : bs.length = n) (hl : n ≤ 9223372036854775807) (hb : BAt w A bs) (ht : Tab w) (N : Nat) :
    Calls Tryd.prog 53 #[.slice A n cap] (w.drewN N) fun e w' => e = .returned (.int .u32 (U (more 0#32 bs))) ∧ w' = w.drewN N :=
  (sum_any A bs n cap (w.drewN N) hn hl hb ht).mono fun _ _ h => ⟨h.1, h.2.symm⟩

/-! ### The reference -/
section
attribute [local go_sem] xor_z8 not_bv
end
end Go.Proofs.YtgcckfaljfkkhaaDoor.Crc
/- The walks of package frame: each function once, over any bytes that are read in memory. -/
namespace Go.Proofs.YtgcckfaljfkkhaaDoor.Frame
open Go.RowKit Mem Crc
theorem byteTy : ByteTy Tryd.prog 41 5 := ⟨Tryd.underlying41, Tryd.underlying5, by kernel_rfl⟩
/-- The call gives back bytes of its own, and nothing that was there has changed. -/
def RetB (w : World) (bs : List UInt8) (e : Ending) (w' : World) : Prop :=
  ∃ A N c, e = .returned (.slice A N c) ∧ Own w' w.heap.size 5 A N c bs ∧ Below w.heap.size w w'

set_option maxHeartbeats 400000 in
/-- 'slices.Clone' of bytes. -/
theorem clone_any (A : Option Addr) (bs : List UInt8) (n cap : Nat) (w : World) (hn : bs.length = n) (hl : n ≤ 140737488355328) (hb : BAt w A bs) :
    Calls Tryd.prog 61 #[.slice A n cap] w (RetB w bs) := by
  have HB := Lib.hid hb
  have HN := Lib.hid hn
  clear hb hn
  cases A with
  | none =>
    have he : ∀ W, (binOp .eql 41 (.slice none n cap) (.slice none 0 0)).run Tryd.prog W = .ok (.bool true) W := fun W => Lib.run_eql_slice_nil W 41 5 none n cap 0 0 Tryd.underlying41
    go_enter Tryd.func61, Tryd.ntmps61
    go_wp2_with fail
    go_ret
    have hbs : bs = [] := by
      rcases Nat.eq_zero_or_pos bs.length with h0 | h0
      · exact List.eq_nil_of_length_eq_zero h0
      · obtain ⟨ad, h, _⟩ := HB.out h0
        cases h
    subst hbs
    exact ⟨_, _, _, rfl, Own.nil_ _ _ _, Below.refl _ _⟩
  | some ad =>
    have he : ∀ W, (binOp .eql 41 (.slice (some ad) n cap) (.slice none 0 0)).run Tryd.prog W = .ok (.bool false) W := fun W => Lib.run_eql_slice_nil W 41 5 (some ad) n cap 0 0 Tryd.underlying41
    go_enter Tryd.func61, Tryd.ntmps61
    go_wp2_with
      (at_builtin
       refine wpList_append_bytes rfl (.tmp 5) (.tmp 6) _ rfl w.heap.size _ byteTy _ 0 0 [] rfl (Own.new w _ _ rfl (Nat.le_refl _) (by rfl) rfl (by decide)) _ n cap bs rfl
         (HB.out.below ((Below.refl _ _).alloc (Nat.le_refl _) _)) HN.out n (Nat.zero_add n) (by omega) (by simp) ?_
       intro A2 c2 w5 ho2 hg2 hb2 hA2
       have HO2 := Lib.hid ho2
       have HBW2 := Lib.hid (((Below.refl w.heap.size w).alloc (Nat.le_refl _) _).trans hb2)
       clear ho2 hg2 hb2 hA2)
    go_ret
    exact ⟨_, _, _, rfl, by simpa using HO2.out, HBW2.out⟩
attribute [local go_sem] or_be
set_option maxHeartbeats 400000 in
/-- 'high': the number of up to eight bytes. -/
theorem high_any (A : Option Addr) (bs : List UInt8) (n cap : Nat) (w : World) (hn : bs.length = n) (hl : n ≤ 8) (hb : BAt w A bs) :
    Calls Tryd.prog 60 #[.slice A n cap] w fun e w' => e = .returned (.tuple #[.int .u64 (be bs : Nat), .int .i64 n]) ∧ w = w' := by
  have HB := Lib.hid hb
  have HN := Lib.hid hn
  clear hb hn
  go_enter Tryd.func60, Tryd.ntmps60
  go_wp2
  go_loop [4, 9] (fun r i => ∃ k : Nat, k ≤ n ∧ i = .int .i64 k ∧ r = .int .u64 (be (bs.take k) : Nat)) (fun _ i => n - (intOf i).toNat)
  case atStart => exact ⟨0, Nat.zero_le _, rfl, rfl⟩
  case round =>
    obtain ⟨k, hk, rfl, rfl⟩ := hrel
    by_cases hlt : k < n
    · have hkl : k < bs.length := by have := HN.out; omega
      have hs : be (bs.take (k + 1)) = be (bs.take k) * 256 + bs[k].toNat := by rw [List.take_succ_eq_append_getElem hkl, be_snoc]
      have hlt1 := be_lt (bs.take k)
      rw [List.length_take_of_le (by omega)] at hlt1
      have h7 : 256 ^ k ≤ 256 ^ 7 := Nat.pow_le_pow_right (by decide) (by omega)
      generalize hr : be (bs.take k) = r at *
      have H := Lib.hid hs
      clear hs hr
      obtain ⟨ad, rfl, hc⟩ := HB.out (by omega)
      have hcell : w.cell? (ad.add k) = some (.int .u8 (V8 bs[k])) := by have := hc k hkl; simpa [List.getD, hkl] using this
      clear hc
      have hr7 : r < 72057594037927936 := by omega
      clear h7 hlt1
      have hv := V8_lt bs[k]
      go_wp2
      go_round
      case rel => exact ⟨k + 1, hlt, by go_num, by rw [H.out]; simp⟩
      case measure => simp [intOf]; omega
    · obtain rfl : k = n := by omega
      have hz : be (bs.take k) = be bs := by rw [List.take_of_length_le (by have := HN.out; omega)]
      clear HB
      rw [hz]
      go_wp2
      go_ret2
      exact ⟨rfl, rfl⟩
/-- The array that Number fills, after k rounds. -/
def RowRel (w : World) (g n : Nat) (i : Value) (wr : World) : Prop :=
  ∃ (k : Nat) (row : List UInt8), k ≤ 8 ∧ i = .int .i64 k ∧ row.length = 8 ∧ Blk wr g 122 (cellsOf row) ∧ Below g w wr ∧ g < wr.heap.size ∧ ∀ j, j < k → row.getD j 0 = (beB n 8).getD j 0
set_option maxHeartbeats 400000 in
/-- 'Number', of a size that is none. -/
theorem number_no (A : Option Addr) (bs : List UInt8) (m cap : Nat) (n : Nat) (size : Int) (w : World) (hm : bs.length = m) (hl : m ≤ 140737488355328) (hb : BAt w A bs) (hsz : ¬ (1 ≤ size ∧ size ≤ 8)) :
    Calls Tryd.prog 52 #[.slice A m cap, .int .u64 n, .int .i64 size] w (RetB w bs) := by
  have HC := Lib.hid (clone_any A bs m cap w hm hl hb)
  clear hb hm
  have hcase : size < 1 ∨ ¬ size < 1 ∧ 8 < size := by omega
  clear hsz
  rcases hcase with h1 | ⟨h1, h2⟩
  all_goals
    go_enter Tryd.func52, Tryd.ntmps52
    go_wp2_with fail
    refine HC.out.mono ?_
    rintro e w1 ⟨A1, N1, c1, rfl, ho, hbw⟩
    have HO := Lib.hid ho
    have HBW := Lib.hid hbw
    clear ho hbw HC
    go_wp2_with fail
    go_ret
    exact ⟨_, _, _, rfl, HO.out, HBW.out⟩
set_option maxHeartbeats 400000 in
/-- 'Number', of 1 to 8 bytes. -/
theorem number_yes (A : Option Addr) (bs : List UInt8) (m cap : Nat) (n : Nat) (size : Nat) (w : World) (hm : bs.length = m) (hl : m ≤ 140737488355320) (hb : BAt w A bs) (h1 : 1 ≤ size) (h8 : size ≤ 8) (_hn : n < 18446744073709551616) :
    Calls Tryd.prog 52 #[.slice A m cap, .int .u64 n, .int .i64 size] w (RetB w (bs ++ beB n size)) := by
  have HC := Lib.hid (clone_any A bs m cap w hm (by omega) hb)
  have HM := Lib.hid hm
  clear hb hm
  go_enter Tryd.func52, Tryd.ntmps52
  go_wp2_with fail
  refine HC.out.mono ?_
  rintro e w1 ⟨A1, N1, c1, rfl, ho, hbw⟩
  obtain rfl : N1 = m := by rw [← ho.len]; exact HM.out
  have HO := Lib.hid ho
  have HBW := Lib.hid hbw
  have hsz := hbw.size
  clear ho hbw HC
  go_wp2_with fail
  go_loopw [19] (fun i wr => RowRel w1 w1.heap.size n i wr) (fun i _ => 8 - (intOf i).toNat)
  case atStart => exact ⟨0, List.replicate 8 0, by omega, rfl, rfl, Blk.new w1 _ _, (Below.refl _ _).alloc (Nat.le_refl _) _, by simp, fun j hj => absurd hj (by omega)⟩
  case round =>
    obtain ⟨k, row, hk, rfl, hrl, hG, hW, hlt', hj⟩ := hrel
    have HG := Lib.hid hG
    have HW := Lib.hid hW
    have HJ := Lib.hid hj
    have HR := Lib.hid hrl
    clear hG hW hj hrl
    by_cases hlt : k < 8
    · have h4 := HG.out.byte (k := k) (by have := HR.out; omega)
      have h5 := HG.out.frozen k
      go_wp2
      go_roundw
      case rel =>
        rw [shr_byte n k hlt]
        refine ⟨k + 1, row.set k (UInt8.ofNat (n / 256 ^ (7 - k))), hlt, by go_num, by simpa using HR.out, HG.out.setByte k _, HW.out.setCell (Nat.le_refl _) _, by simpa [World.setCell] using hlt', fun j hj => ?_⟩
        rcases Nat.lt_or_ge j k with h | h
        · have := HJ.out j h
          simp [List.getD, Nat.ne_of_gt h] at this ⊢
          exact this
        · obtain rfl : j = k := by omega
          have := beB_get n 8 j hlt
          rw [this]
          have hr := HR.out
          simp [List.getD, hr, hlt]
      case measure => simp [intOf]; omega
    · obtain rfl : k = 8 := by omega
      have hrow : row = beB n 8 := by
        have h8 := HR.out
        apply List.ext_getElem (by rw [h8, beB_length])
        intro j h1 h2
        have := HJ.out j (by omega)
        simpa [List.getD, h1, h2] using this
      subst hrow
      have HT := Lib.hid ((HG.out.bat).drop (8 - size))
      have hd : (beB n 8).drop (8 - size) = beB n size := by
        have := beB_drop n (8 - size) size
        rwa [show 8 - size + size = 8 by omega] at this
      rw [hd, add_off, Nat.zero_add] at HT
      have HO' := Lib.hid (HO.out.below HW.out)
      have HBW' := Lib.hid (HBW.out.trans (HW.out.mono hsz))
      clear HG HW HJ HR hd HO HBW
      have hcut := fun W => run_cutArray (P := Tryd.prog) 122 5 8 Tryd.underlying122 byteTy.hi w1.heap.size 0 .i64 (8 - (size : Int)) (8 - size) (by omega) (by omega) W
      rw [Nat.zero_add, show 8 - (8 - size) = size by omega] at hcut
      go_wp2_with
        (at_builtin
         refine wpList_append_bytes rfl (.tmp 31) (.tmp 34) _ rfl w.heap.size _ byteTy _ _ _ bs rfl HO'.out _ size _ (beB n size) rfl
           HT.out (beB_length _ _) (N1 + size) rfl (by omega) HBW'.out.size ?_
         intro A2 c2 w5 ho2 hg2 hb2 hA2
         have HO2 := Lib.hid ho2
         have HBW2 := Lib.hid (HBW'.out.trans hb2)
         clear ho2 hg2 hb2 hA2)
      go_ret
      exact ⟨_, _, _, rfl, HO2.out, HBW2.out⟩
/-- Number, all sizes. -/
theorem number_any (A : Option Addr) (bs : List UInt8) (m cap : Nat) (n : Nat) (size : Int) (w : World) (hm : bs.length = m) (hl : m ≤ 140737488355320) (hb : BAt w A bs) (hn : n < 18446744073709551616) :
    Calls Tryd.prog 52 #[.slice A m cap, .int .u64 n, .int .i64 size] w (RetB w (number bs n size)) := by
  unfold number okSize
  by_cases h : 1 ≤ size ∧ size ≤ 8
  · rw [if_pos (by simpa using h)]
    obtain ⟨s, rfl⟩ := Int.eq_ofNat_of_zero_le (show 0 ≤ size by omega)
    rw [Int.toNat_natCast]
    exact number_yes A bs m cap n s w hm hl hb (by omega) (by omega) hn
  · rw [if_neg (by simpa using h)]
    exact number_no A bs m cap n size w hm (by omega) hb h
/-- What Take gives back. -/
def RetT (w : World) (r : Nat × List UInt8 × Int) (e : Ending) (w' : World) : Prop :=
  ∃ A N c, e = .returned (.tuple #[.int .u64 (r.1 : Nat), .slice A N c, .int .i64 r.2.2]) ∧ Own w' w.heap.size 5 A N c r.2.1 ∧ Below w.heap.size w w'
set_option maxHeartbeats 800000 in
/-- 'Pack'. -/
theorem pack_any (kind : UInt8) (A : Option Addr) (bs : List UInt8) (m cap : Nat) (w : World) (hm : bs.length = m) (hl : m ≤ 140737488355000) (hb : BAt w A bs) (ht : Tab w) (hg : 1 < w.heap.size) :
    Calls Tryd.prog 35 #[.int .u8 (V8 kind), .slice A m cap] w (RetB w (pack kind bs)) := by
  have HB := Lib.hid hb
  have HT := Lib.hid ht
  have HM := Lib.hid hm
  clear hb ht hm
  obtain ⟨i0, hi0, hz0, hs0, hby0⟩ := byteTy.info
  have hmk : ∀ W : World, (Instr.makeSlice 41 (.int .i64 0) (.int .i64 ((m : Int) + 9))).run Tryd.prog W = .ok (.slice (some ⟨W.heap.size, 0, none⟩) 0 (m + 9)) (W.alloc (.cells (cellsOf (List.replicate (m + 9) 0)) 5)) := fun W => run_makeCap byteTy 0 (m + 9) _ _ rfl (by omega) (by omega) (by omega) W
  clear hi0 hz0 hs0 hby0
  go_enter Tryd.func35, Tryd.ntmps35
  go_wp2_with fail
  have hb0 : Below w.heap.size w (w.alloc (.cells (cellsOf (List.replicate (m + 9) 0)) 5)) := (Below.refl _ _).alloc (Nat.le_refl _) _
  refine (number_yes _ [] 0 (m + 9) m 4 _ rfl (by omega) (BAt.nil_ _ _) (by omega) (by omega) (by omega)).mono ?_
  rintro e w1 ⟨A1, N1, c1, rfl, ho, hbw⟩
  obtain rfl : N1 = 4 := by rw [← ho.len]; simp [beB_length]
  have HO1 := Lib.hid (ho.mono hb0.size)
  have HW1 := Lib.hid (hb0.trans (hbw.mono hb0.size))
  clear hbw ho hb0 hmk
  go_wp2_with (first
    | (at_builtin
       refine wpList_append_bytes rfl (.tmp 15) (.tmp 17) _ rfl w.heap.size _ byteTy A1 4 c1 _ rfl (HO1.out.alloc _) _ 1 1 [kind] rfl
         (BAt.new _ _ _ _ (by rfl)) rfl 5 rfl (by omega) (by have := HW1.out.size; simp; omega) ?_
       intro A2 c2 w2 ho2 hg2 hb2 hA2
       have HO2 := Lib.hid ho2
       have HW2 := Lib.hid ((HW1.out.alloc HW1.out.size _).trans hb2)
       clear ho2 hg2 hb2 hA2)
    | (at_builtin
       refine wpList_append_bytes rfl (.tmp 19) (.tmp 20) _ rfl w.heap.size _ byteTy A2 5 c2 _ rfl HO2.out A m cap bs rfl
         (HB.out.below HW2.out) HM.out (5 + m) rfl (by omega) HW2.out.size ?_
       intro A3 c3 w3 ho3 hg3 hb3 hA3
       have HO3 := Lib.hid ho3
       have HW3 := Lib.hid (HW2.out.trans hb3)
       clear ho3 hg3 hb3 hA3))
  have hhead : [] ++ beB m 4 ++ [kind] ++ bs = head kind bs := by have := HM.out; subst this; simp [head]
  have HH := Lib.hid hhead
  clear hhead
  rw [HH.out] at HO3
  refine (sum_any _ (head kind bs) _ _ _ HO3.out.len (by omega) HO3.out.bat (HT.out.below HW3.out hg)).mono ?_
  rintro e w4 ⟨rfl, rfl⟩
  have hu : U (more 0#32 (head kind bs)) = (((more 0#32 (head kind bs)).toNat : Nat) : Int) := rfl
  rw [hu]
  have hlt : (more 0#32 (head kind bs)).toNat < 4294967296 := (more 0#32 (head kind bs)).isLt
  have hpk : pack kind bs = head kind bs ++ beB (more 0#32 (head kind bs)).toNat 4 := rfl
  clear hu
  generalize (more 0#32 (head kind bs)).toNat = s at *
  have HPK := Lib.hid hpk
  clear hpk
  go_wp2_with fail
  refine (number_yes A3 (head kind bs) (5 + m) c3 s 4 _ HO3.out.len (by omega) HO3.out.bat (by omega) (by omega) (by omega)).mono ?_
  rintro e w5 ⟨A5, N5, c5, rfl, ho, hbw⟩
  have hsz := HW3.out.size
  have HO5 := Lib.hid (ho.mono hsz)
  have HW5 := Lib.hid (HW3.out.trans (hbw.mono hsz))
  clear hbw ho
  go_wp2_with fail
  go_ret
  exact ⟨_, _, _, rfl, by rw [HPK.out]; exact HO5.out, HW5.out⟩
/-- What Unpack gives back. -/
def RetU (w : World) (r : Option (UInt8 × List UInt8 × List UInt8)) (e : Ending) (w' : World) : Prop :=
  (r = none ∧ e = .returned (.tuple #[.int .u8 0, .slice none 0 0, .slice none 0 0, .int .i64 40]) ∧ Below w.heap.size w w') ∨
  ∃ k p q A N c A' N' c', r = some (k, p, q) ∧ e = .returned (.tuple #[.int .u8 (V8 k), .slice A N c, .slice A' N' c', .int .i64 0]) ∧
    Own w' w.heap.size 5 A N c p ∧ Own w' w.heap.size 5 A' N' c' q ∧ Below w.heap.size w w' ∧ (A = none ∨ A.map (·.block) ≠ A'.map (·.block))
theorem RetU.some_ {w w' : World} {k : UInt8} {p q : List UInt8} {e : Ending} (h : RetU w (some (k, p, q)) e w') :
    ∃ A N c A' N' c', e = .returned (.tuple #[.int .u8 (V8 k), .slice A N c, .slice A' N' c', .int .i64 0]) ∧ Own w' w.heap.size 5 A N c p ∧ Own w' w.heap.size 5 A' N' c' q ∧ Below w.heap.size w w' ∧ (A = none ∨ A.map (·.block) ≠ A'.map (·.block)) := by
  rcases h with ⟨h, _⟩ | ⟨k', p', q', A, N, c, A', N', c', h, rest⟩
  · cases h
  · injection h with h
    injection h with h1 h2
    injection h2 with h2 h3
    subst h1 h2 h3
    exact ⟨A, N, c, A', N', c', rest⟩
theorem RetU.none_ {w w' : World} {e : Ending} (h : RetU w none e w') : e = .returned (.tuple #[.int .u8 0, .slice none 0 0, .slice none 0 0, .int .i64 40]) ∧ Below w.heap.size w w' := by
  rcases h with ⟨_, h⟩ | ⟨k', p', q', A, N, c, A', N', c', h, _⟩
  · exact h
  · cases h
theorem results_tmp4 {fn : Func} {t u v x : Tmp} (h : fn.results = #[.tmp t, .tmp u, .tmp v, .tmp x]) (tmps : Array Value) (P : Program) (w : World) :
    (results fn tmps).run P w = .ok (.tuple #[tmps.getD t undef, tmps.getD u undef, tmps.getD v undef, tmps.getD x undef]) w := by simp [results, h]
set_option maxHeartbeats 800000 in
theorem unpack_short (A : Option Addr) (m cap : Nat) (w : World) (hm : m < 9) :
    Calls Tryd.prog 48 #[.slice A m cap] w (RetU w none) := by
  go_enter Tryd.func48, Tryd.ntmps48
  go_wp2
  refine bodyPost_ret (results_tmp4 rfl _ _ _) rfl ?_
  exact .inl ⟨rfl, rfl, Below.refl _ _⟩
set_option maxHeartbeats 800000 in
theorem unpack_long (A : Option Addr) (bs : List UInt8) (m cap : Nat) (w : World) (hl : bs.length = m) (hcap : m ≤ cap) (hmax : m ≤ 140737488355328) (hb : BAt w A bs) (hm : 9 ≤ m) (hn : m - 9 < be (bs.take 4)) :
    Calls Tryd.prog 48 #[.slice A m cap] w (RetU w none) := by
  have hc1 := fun W => run_cut_h (P := Tryd.prog) 41 5 byteTy A m cap .i64 4 4 rfl (by omega) W
  have HC := Lib.hid (high_any A (bs.take 4) 4 cap w (by simp; omega) (by omega) (hb.take 4))
  have hlt := be_lt (bs.take 4)
  rw [List.length_take_of_le (by omega)] at hlt
  clear hb
  generalize be (bs.take 4) = n at *
  have hd : decide ((m : Int) - 9 < (n : Int)) = true := by simp; omega
  go_enter Tryd.func48, Tryd.ntmps48
  go_wp2_with fail
  refine HC.out.mono ?_
  rintro e w1 ⟨rfl, rfl⟩
  clear HC
  go_wp2
  refine bodyPost_ret (results_tmp4 rfl _ _ _) rfl ?_
  exact .inl ⟨rfl, rfl, Below.refl _ _⟩
attribute [local go_sem ↓] Go.wp_at_zero Go.wp_at_succ
set_option maxHeartbeats 1000000 in
theorem unpack_fits (A : Option Addr) (bs : List UInt8) (m cap : Nat) (w : World) (hl : bs.length = m) (hcap : m ≤ cap) (hmax : m ≤ 140737488355328) (hb : BAt w A bs) (ht : Tab w) (hm : 9 ≤ m) (hn : be (bs.take 4) ≤ m - 9) :
    Calls Tryd.prog 48 #[.slice A m cap] w (RetU w (unpackM bs)) := by
  have hlt := be_lt (bs.take 4)
  rw [List.length_take_of_le (by omega)] at hlt
  obtain ⟨n, hq⟩ : ∃ n, n = be (bs.take 4) := ⟨_, rfl⟩
  have hU : unpackM bs = if be ((bs.drop (5 + n)).take 4) ≠ (more 0#32 (bs.take (5 + n))).toNat then none else some (bs.getD 4 0, (bs.take (5 + n)).drop 5, bs.drop (9 + n)) := by
    unfold unpackM
    rw [if_neg (by omega), if_neg (by omega), hq]
  have HC := Lib.hid (high_any A (bs.take 4) 4 cap w (by simp; omega) (by omega) (hb.take 4))
  rw [← hq] at HC hn hlt
  clear hq
  obtain ⟨ad, rfl, hcell0⟩ := hb (by omega)
  have hcell := hcell0 4 (by omega)
  have hc1 := fun W => run_cut_h (P := Tryd.prog) 41 5 byteTy (some ad) m cap .i64 4 4 rfl (by omega) W
  have hc2 := fun W => run_cut_hm (P := Tryd.prog) 41 5 byteTy (some ad) m cap .i64 .i64 (5 + (n : Int)) (5 + (n : Int)) (5 + n) (5 + n) (by omega) (by omega) (Nat.le_refl _) (by omega) W
  have hc3 := fun W => run_cut_lhm (P := Tryd.prog) 41 5 byteTy (some ad) m cap .i64 .i64 .i64 (5 + (n : Int)) (5 + (n : Int) + 4) (5 + (n : Int) + 4) (5 + n) (9 + n) (9 + n) (by omega) (by omega) (by omega) (by omega) (Nat.le_refl _) (by omega) W
  rw [show 9 + n - (5 + n) = 4 by omega] at hc3
  have hw1 : IntKind.i64.wrap (5 + (n : Int) + 4) = 5 + (n : Int) + 4 := IntWalk.i64_in _ (by omega)
  have hd : decide ((m : Int) - 9 < (n : Int)) = false := by simp; omega
  have hB4 : BAt w (cutA (some ad) (9 + n) (5 + n)) ((bs.drop (5 + n)).take 4) := by
    have := (hb.take (9 + n)).cut (9 + n) (5 + n) (by simp; omega)
    rwa [List.drop_take, show 9 + n - (5 + n) = 4 by omega] at this
  have HH := fun N => Lib.hid (high_any (cutA (some ad) (9 + n) (5 + n)) ((bs.drop (5 + n)).take 4) 4 4 (w.drewN N) (by simp; omega) (by omega) hB4)
  have HS := fun N => Lib.hid (sum_any (some ad) (bs.take (5 + n)) (5 + n) (5 + n) (w.drewN N) (by simp; omega) (by omega) (hb.take _) ht)
  have HB := Lib.hid hb
  have HT := Lib.hid ht
  have HL := Lib.hid hl
  have HU := Lib.hid hU
  clear hb ht hl hcell0 hB4 hU
  go_enter Tryd.func48, Tryd.ntmps48
  go_wp2_with fail
  refine HC.out.mono ?_
  rintro e w1 ⟨rfl, rfl⟩
  clear HC
  go_wp2_with fail
  go_quiet (fail)
  go_wp2_with fail
  refine (HH nq).out.mono ?_
  rintro e w1 ⟨rfl, rfl⟩
  clear HH
  go_wp2_with fail
  refine (HS nq).out.mono ?_
  rintro e w1 ⟨rfl, rfl⟩
  clear HS
  have hu : U (more 0#32 (bs.take (5 + n))) = (((more 0#32 (bs.take (5 + n))).toNat : Nat) : Int) := rfl
  rw [hu]
  clear hu
  have hs : (more 0#32 (bs.take (5 + n))).toNat < 4294967296 := (more 0#32 (bs.take (5 + n))).isLt
  generalize (more 0#32 (bs.take (5 + n))).toNat = s at *
  generalize be ((bs.drop (5 + n)).take 4) = q at *
  by_cases hqs : q = s
  · have hbq : ((q : Int) != (s : Int)) = false := by simp [hqs]
    have hUs : unpackM bs = some (bs.getD 4 0, (bs.take (5 + n)).drop 5, bs.drop (9 + n)) := by rw [HU.out, if_neg (by simp [hqs])]
    have HUS := Lib.hid hUs
    clear hUs hqs HU
    have hp1 : BAt w (cutA (some ad) (5 + n) 5) ((bs.take (5 + n)).drop 5) := (HB.out.take (5 + n)).cut _ _ (by simp; omega)
    have hp2 : BAt w (cutA (some ad) cap (9 + n)) (bs.drop (9 + n)) := HB.out.cut _ _ (by have := HL.out; omega)
    have hl1 : ((bs.take (5 + n)).drop 5).length = n := by have := HL.out; simp; omega
    have hl2 : (bs.drop (9 + n)).length = m - (9 + n) := by have := HL.out; simp; omega
    have hk1 := fun W => run_cut_l (P := Tryd.prog) 41 5 byteTy (some ad) (5 + n) (5 + n) .i64 5 5 rfl (by omega) W
    rw [Nat.add_sub_cancel_left] at hk1
    have hk2 := fun W => run_cut_l (P := Tryd.prog) 41 5 byteTy (some ad) m cap .i64 (5 + (n : Int) + 4) (9 + n) (by omega) (by omega) W
    have hca : w.cell? ⟨ad.block, ad.off + 4, none⟩ = some (.int .u8 (V8 (bs.getD 4 0))) := hcell
    generalize (bs.take (5 + n)).drop 5 = pl at *
    generalize bs.drop (9 + n) = rs at *
    generalize bs.getD 4 0 = kd at *
    have HP1 := Lib.hid hp1
    have HP2 := Lib.hid hp2
    have HL1 := Lib.hid hl1
    have HL2 := Lib.hid hl2
    clear hp1 hp2 hl1 hl2 hc1 hc2 hc3 hcell HB HT HL hd
    have hi4 : (4 : Int) < (m : Int) := by omega
    have hi0 : (0 : Int) ≤ 4 := by omega
    go_wp2_with fail
    go_region_held3 (fun w' => w'.cell? ⟨ad.block, ad.off + 4, none⟩ = some (.int .u8 (V8 kd)) ∧ Below w.heap.size w w')
      (first
        | exact ⟨hca, rfl, rfl, rfl, Nat.le_refl _, fun _ _ => rfl⟩
        | exact keep1 hbB (by assumption)
        | exact keep1 hbA (by assumption))
      (first
        | (go_at_call 61
           (with_reducible refine (clone_any (cutA (some ad) (5 + n) 5) pl n _ _ HL1.out (by omega) ?_).mono ?_)
           · exact HP1.out.below (And.right (a := World.cell? _ ⟨ad.block, ad.off + 4, none⟩ = some (.int .u8 (V8 kd))) (by assumption))
           rintro e wA ⟨A1, N1, c1, rfl, hoA, hbA⟩)
        | (go_at_call 61
           (with_reducible refine (clone_any (cutA (some ad) cap (9 + n)) rs (m - (9 + n)) _ _ HL2.out (by omega) ?_).mono ?_)
           · exact HP2.out.below (And.right (a := World.cell? _ ⟨ad.block, ad.off + 4, none⟩ = some (.int .u8 (V8 kd))) (by assumption))
           rintro e wB ⟨A2, N2, c2, rfl, hoB, hbB⟩))
    have hw0 : Below w.heap.size w wA := (below_drewN (Below.refl _ _) (nq + 1) : Below w.heap.size w (w.drewN (nq + 1))).trans hbA
    have HA := Lib.hid hoA
    have HBq := Lib.hid hoB
    have HWA := Lib.hid hw0
    have HWB := Lib.hid hbB
    clear hoA hoB hbA hbB hw0
    go_wp2
    refine bodyPost_ret (results_tmp4 rfl _ _ _) rfl ?_
    have hsz := HWA.out.size
    have h1 : Own wB w.heap.size 5 A1 N1 c1 pl := (HA.out.below HWB.out).mono (Nat.le_refl _)
    have h2 : Own wB w.heap.size 5 A2 N2 c2 rs := HBq.out.mono hsz
    refine .inr ⟨kd, pl, rs, A1, N1, c1, A2, N2, c2, HUS.out, rfl, h1, h2, HWA.out.trans (HWB.out.mono hsz), ?_⟩
    rcases HA.out.form with ⟨h, _, _⟩ | ⟨g1, h, _, hg1⟩
    · exact .inl h
    · refine .inr ?_
      rw [h]
      rcases HBq.out.form with ⟨h', _, _⟩ | ⟨g2, h', hg2, _⟩
      · rw [h']; simp
      · rw [h']; simp; omega
  · have hbq : ((q : Int) != (s : Int)) = true := by simp; omega
    have hUs : unpackM bs = none := by rw [HU.out, if_pos hqs]
    have HUS := Lib.hid hUs
    clear hUs hqs HU
    go_wp2
    refine bodyPost_ret (results_tmp4 rfl _ _ _) rfl ?_
    exact .inl ⟨HUS.out, rfl, below_drewN (Below.refl _ _) nq⟩
theorem unpack_any (A : Option Addr) (bs : List UInt8) (m cap : Nat) (w : World) (hl : bs.length = m) (hcap : m ≤ cap) (hmax : m ≤ 140737488355328) (hb : BAt w A bs) (ht : Tab w) :
    Calls Tryd.prog 48 #[.slice A m cap] w (RetU w (unpackM bs)) := by
  by_cases h1 : m < 9
  · have : unpackM bs = none := by unfold unpackM; rw [if_pos (by omega)]
    rw [this]
    exact unpack_short A m cap w h1
  · by_cases h2 : m - 9 < be (bs.take 4)
    · have : unpackM bs = none := by unfold unpackM; rw [if_neg (by omega), if_pos (by omega)]
      rw [this]
      exact unpack_long A bs m cap w hl hcap hmax hb (by omega) h2
    · exact unpack_fits A bs m cap w hl hcap hmax hb ht (by omega) (by omega)
end Go.Proofs.YtgcckfaljfkkhaaDoor.Frame
