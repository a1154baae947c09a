/- 'slices.Grow' of nil and 'slices.Concat' of two rows of numbers. -/
import Derived.Test.YtomncfiklkhfjaaPlClone
import Derived.Deep.AppendSrc
namespace Go.Proofs.Ytomncfiklkhfjaa.Pl
open Go Go.RowKit Mem
/-- The slice at A has these numbers. -/
def IAt (w : World) (A : Option Addr) (zs : List Int) : Prop := zs = [] ∨ ∃ ad : Addr, A = some ad ∧ ∀ (k : Nat) (z : Int), zs[k]? = some z → w.cell? (ad.add k) = some (.int .i64 z)
theorem IAt.below {w w' : World} {A : Option Addr} {zs : List Int} (h : IAt w A zs) (hb : Below w.heap.size w w') : IAt w' A zs := by
  rcases h with h | ⟨ad, hA, hc⟩
  · exact .inl h
  · exact .inr ⟨ad, hA, fun k z hz => (hb.cell (cell_lt (hc k z hz))).trans (hc k z hz)⟩
def intV (z : Int) : Value := .int .i64 z
theorem intV_one (l : List Int) : ∀ u ∈ l.map intV, u.oneCell' = true := by
  intro u hu
  obtain ⟨x, _, rfl⟩ := List.mem_map.1 hu
  rfl
theorem run_append_make (w : World) (n : Nat) (h0 : 0 < n) (hn : n ≤ 1000000) :
    (Builtin.append_ #[42, 3] 42 #[.slice none 0 0, .int .i64 (n : Int)]).run Try.prog w =
      .ok (.slice (some ⟨w.heap.size, 0, none⟩) n (grownCap w n 0 3)) (w.drew.alloc (.cells (Builtin.zeroCells #[.int .i64 0] n ++ Builtin.zeroCells #[.int .i64 0] (grownCap w n 0 3 - n)) 3)) := by
  obtain ⟨i, hi, hz, hs, hby⟩ := intTy.info
  have hne : n ≠ 0 := by omega
  have hw : IntKind.i64.wrap (n : Int) = (n : Int) := IntWalk.i64_in _ (by omega)
  have h63 : ¬ (9223372036854775807 < (n : Int)) := by omega
  have h48 : ¬ (281474976710656 < Builtin.nextslicecap n 0 * 8) := by rw [nextslicecap_zero h0]; omega
  have hb : ¬ (281474976710656 < (n : Int) * 8) := by omega
  have hneg : ¬ ((n : Int) < 0) := by omega
  simp [Builtin.append_, run_underlying Try.underlying42, run_underlying Try.underlying3, sizeOf, typeInfo, zeroValue, hi, hz, hs, hby, asInt, asIntOf, hw, hneg, hb, hne, h63, h48, Question.forced, run_firstCells_none, newRow, grownCap, Value.cells]
/-- An 'append' whose run is known. -/
theorem wpList_append_run {P : Program} {w : World} {ops : Array Oper} {rest : List Oper} {o : Oper} {a : Act} {Q : Exit → Act → World → Prop} (hgd : o.guard = none) (s x : Operand) (t tx : TypeId)
    (ho : o.op = .call { callee := .builtin .append, args := #[s, x], argTypes := #[t, tx] }) (vs vx v : Value) (w' : World) (hs : a.eval s = vs) (hx : a.eval x = vx)
    (hrun : (Builtin.append_ #[t, tx] o.type #[vs, vx]).run P w = .ok v w') (h : wpList P ops Q rest (a.put o.dst v) w') : wpList P ops Q (o :: rest) a w :=
  wpList_plain hgd fun _ hK => by
    subst hs hx
    unfold Oper.wp execOp
    simp only [ho, resolve, invoke, builtin, Sem.run_bind, Sem.run_pure, Result.andThen_ok, List.map_toArray, List.map_cons, List.map_nil, hrun]
    exact hK _ _ h
set_option maxRecDepth 100000 in
set_option maxHeartbeats 1000000 in
theorem grow_any (w : World) (n : Nat) (h0 : 0 < n) (hn : n ≤ 12) :
    Calls Try.prog 88 #[.slice none 0 0, .int .i64 (n : Int)] w fun e w' =>
      ∃ v, e = .returned v ∧ Vec w' (fun g => w.heap.size ≤ g ∧ g < w'.heap.size) 3 1 v 0 [] ∧ Below w.heap.size w w' := by
  have hap := run_append_make w n h0 (by omega)
  have hge := grownCap_ge w n 0 3
  have hle : grownCap w n 0 3 ≤ maxLen := grownCap_le_maxLen w n 0 3 (by unfold maxLen; omega)
  generalize hc : grownCap w n 0 3 = c at hap hge hle
  have hcl : (Builtin.zeroCells #[Value.int .i64 0] n ++ Builtin.zeroCells #[Value.int .i64 0] (c - n)).size = c := by simp [Builtin.zeroCells]; omega
  generalize Builtin.zeroCells #[Value.int .i64 0] n ++ Builtin.zeroCells #[Value.int .i64 0] (c - n) = cs at hap hcl
  have HCL := Lib.hid hcl
  have hn0 : (0 : Int) < (n : Int) := by omega
  clear hcl hc
  go_enter Try.func88, Try.ntmps88
  have HAP := Lib.hid hap
  clear hap
  go_wp2_with
    (refine wpList_append_run rfl (.tmp 20) (.tmp 21) 42 3 rfl _ _ _ _ rfl rfl HAP.out ?_)
  go_ret
  refine ⟨.slice (some ⟨w.heap.size, 0, none⟩) 0 c, rfl, ?_, ?_⟩
  · exact ⟨_, _, rfl, by simp, .inr ⟨w.heap.size, cs, rfl, ⟨Nat.le_refl _, by show w.heap.size < (w.alloc _).heap.size; simp⟩, heap_alloc_new w _, by omega, hle, by simp [HCL.out], by simp⟩⟩
  · exact (below_al' (w := w) (.cells cs 3)).drew
/-- 'append' of numbers that are read anywhere. -/
theorem wpList_append_ints {w : World} {F : Nat → Prop} {v : Value} {n : Nat} {xs : List Value} {ops : Array Oper} {rest : List Oper} {o : Oper} {a : Act} {Q : Exit → Act → World → Prop} (hgd : o.guard = none) (s x : Operand)
    (ho : o.op = .call { callee := .builtin .append, args := #[s, x], argTypes := #[42, 42] })
    (hs : a.eval s = v) (hv : Vec w F 3 1 v n xs) (A : Option Addr) (m d : Nat) (zs : List Int) (hx : a.eval x = .slice A m d) (hz : IAt w A zs) (hl : zs.length = m) (hm : n + m ≤ 1000000000)
    (h : ∀ v' w' row, Vec w' (Grow F w w') 3 1 v' (n + m) (xs ++ zs.map intV) → w.grownBy w' row → (row = none ∨ ∃ g cs, row = some g ∧ F g ∧ w.heap[g]? = some (.cells cs 3 (0, 0))) → wpList Try.prog ops Q rest (a.put o.dst v') w') : wpList Try.prog ops Q (o :: rest) a w := by
  cases A with
  | some ad =>
    refine wpList_append_vec hgd s x _ ho 8 _ intTy hs hv ad m d (zs.map intV) hx (by simp [hl]) (fun j u hu => ?_) (intV_one zs) (by unfold maxLen; omega) (by omega) h
    rw [List.getElem?_map] at hu
    cases hzj : zs[j]? with
    | none => rw [hzj] at hu; cases hu
    | some z =>
      rw [hzj] at hu
      injection hu with hu
      subst hu
      rcases hz with hz | ⟨ad', hA, hc⟩
      · subst hz; simp at hzj
      · injection hA with hA
        subst hA
        exact hc j z hzj
  | none =>
    have hz0 : zs = [] := by
      rcases hz with hz | ⟨ad', hA, _⟩
      · exact hz
      · cases hA
    subst hz0
    simp at hl
    subst hl
    have hrun : (Builtin.append_ #[42, 42] o.type #[v, .slice none 0 d]).run Try.prog w = .ok v w := by
      obtain ⟨i, hi, hz, hs, hby⟩ := intTy.info
      obtain ⟨A', cap, rfl, _, ⟨rfl, rfl⟩ | ⟨g, cur, rfl, _, _, hnc, _⟩⟩ := hv
      · cases A' <;> simp [Builtin.append_, run_underlying intTy.ht, sizeOf, typeInfo, hi, Builtin.lenOf, Builtin.firstCells, storeCells]
      · simp [Builtin.append_, run_underlying intTy.ht, sizeOf, typeInfo, hi, Builtin.lenOf, Builtin.firstCells, hnc, storeCells]
    exact wpList_append_run hgd s x _ _ ho v (.slice none 0 d) v w hs hx hrun (h v w none (by simpa using hv.mono fun g _ hg => .inl hg) (World.grownBy.refl w _) (.inl rfl))
set_option maxHeartbeats 1000000 in
/-- 'slices.Clone' of numbers that are read anywhere. -/
theorem cloneI_any {w : World} {A : Option Addr} {n cap : Nat} {zs : List Int} (h : IAt w A zs) (hl : zs.length = n) (hn : n ≤ 1000000000) :
    Calls Try.prog 63 #[.slice A n cap] w (RetV w 3 1 n (zs.map intV)) := by
  have H := Lib.hid h
  have HL := Lib.hid hl
  clear h hl
  cases A with
  | none =>
    have he : ∀ W, (binOp .eql 42 (.slice none n cap) (.slice none 0 0)).run Try.prog W = .ok (.bool true) W := fun W => Lib.run_eql_slice_nil W 42 3 none n cap 0 0 Try.underlying42
    go_enter Try.func63, Try.ntmps63
    go_wp2_with fail
    go_ret
    have hz : zs = [] := by
      rcases H.out with hz | ⟨ad', hA, _⟩
      · exact hz
      · cases hA
    have hn0 := HL.out
    subst hz
    simp at hn0
    subst hn0
    exact ⟨_, rfl, Vec.nil_ _ _ _ _ _, Below.refl _ _⟩
  | some ad =>
    have he : ∀ W, (binOp .eql 42 (.slice (some ad) n cap) (.slice none 0 0)).run Try.prog W = .ok (.bool false) W := fun W => Lib.run_eql_slice_nil W 42 3 (some ad) n cap 0 0 Try.underlying42
    go_enter Try.func63, Try.ntmps63
    go_wp2_with
      (at_builtin
       refine wpList_append_ints rfl (.tmp 5) (.tmp 6) rfl rfl (Vec.nil_ _ (fun _ => False) 3 1 (some ⟨w.heap.size, 0, none⟩)) (some ad) n cap zs rfl (H.out.below (below_al' _)) HL.out (by omega) ?_
       intro v2 w2 row hv2 hg2 hr2
       have HV2 := Lib.hid hv2
       have HG2 := Lib.hid hg2
       have HR2 := Lib.hid hr2
       clear hv2 hg2 hr2)
    go_ret
    refine ⟨v2, rfl, ?_, ?_⟩
    · have hv := HV2.out
      rw [Nat.zero_add, List.nil_append] at hv
      exact hv.mono fun g hg h => by
        rcases h with h | ⟨h, _⟩
        · exact h.elim
        · exact ⟨by simp at h; omega, hg⟩
    · refine (below_al' _).grown HG2.out (by simp) (fun g hg => ?_)
      rcases HR2.out with h | ⟨g', cs, _, h, _⟩
      · rw [h] at hg; cases hg
      · exact h.elim
def CatR (w : World) (n1 n2 : Nat) (zs1 zs2 : List Int) (v i : Value) (wr : World) : Prop :=
  Below w.heap.size w wr ∧ ((i = .int .i64 0 ∧ Vec wr (fun g => w.heap.size ≤ g ∧ g < wr.heap.size) 3 1 v 0 []) ∨ (i = .int .i64 1 ∧ Vec wr (fun g => w.heap.size ≤ g ∧ g < wr.heap.size) 3 1 v n1 (zs1.map intV)) ∨
    (i = .int .i64 2 ∧ Vec wr (fun g => w.heap.size ≤ g ∧ g < wr.heap.size) 3 1 v (n1 + n2) ((zs1 ++ zs2).map intV)))
set_option maxRecDepth 100000 in
set_option maxHeartbeats 2000000 in
theorem concat_any (w : World) (G : Nat) (A1 A2 : Option Addr) (n1 n2 k1 k2 : Nat) (zs1 zs2 : List Int) (hG : Blk w G 42 #[.slice A1 n1 k1, .slice A2 n2 k2]) (h1 : IAt w A1 zs1) (h2 : IAt w A2 zs2) (hl1 : zs1.length = n1) (hl2 : zs2.length = n2) (h0 : 0 < n1 + n2) (hn : n1 + n2 ≤ 12) :
    Calls Try.prog 64 #[.slice (some ⟨G, 0, none⟩) 2 2] w (RetV w 3 1 (n1 + n2) ((zs1 ++ zs2).map intV)) := by
  have c0 := (hG.cell 0).trans (show _ = some (.slice A1 n1 k1) from rfl)
  have c1 := (hG.cell 1).trans (show _ = some (.slice A2 n2 k2) from rfl)
  have HG := Lib.hid hG
  have H1 := Lib.hid h1
  have H2 := Lib.hid h2
  have HL1 := Lib.hid hl1
  have HL2 := Lib.hid hl2
  clear hG h1 h2 hl1 hl2
  go_enter Try.func64, Try.ntmps64
  go_wp2
  go_loop [3, 11] (fun s i => (i = .int .i64 0 ∧ s = .int .i64 0) ∨ (i = .int .i64 1 ∧ s = .int .i64 (n1 : Int)) ∨ (i = .int .i64 2 ∧ s = .int .i64 ((n1 + n2 : Nat) : Int))) (fun _ i => 2 - (intOf i).toNat)
  case atStart => exact .inl ⟨rfl, rfl⟩
  case round =>
    rcases hrel with ⟨rfl, rfl⟩ | ⟨rfl, rfl⟩ | ⟨rfl, rfl⟩
    · go_wp2
      go_round
      case rel => exact .inr (.inl ⟨rfl, rfl⟩)
      case measure => simp [intOf]
    · go_wp2
      go_round
      case rel => exact .inr (.inr ⟨rfl, by go_num⟩)
      case measure => simp [intOf]
    · go_wp2_with fail
      refine (grow_any w (n1 + n2) h0 hn).mono ?_
      rintro e w2 ⟨v2, rfl, hv2, hb2⟩
      have HV2 := Lib.hid hv2
      have HB2 := Lib.hid hb2
      clear hv2 hb2 c0 c1
      go_wp2_with fail
      go_loopw [6, 27] (fun v i wr => CatR w n1 n2 zs1 zs2 v i wr) (fun _ i _ => 2 - (intOf i).toNat)
      case atStart => exact ⟨HB2.out, .inl ⟨rfl, HV2.out⟩⟩
      case round =>
        obtain ⟨hb, hc⟩ := hrel
        have d0 := (((HG.out.below_ hb).cell 0)).trans (show _ = some (.slice A1 n1 k1) from rfl)
        have d1 := (((HG.out.below_ hb).cell 1)).trans (show _ = some (.slice A2 n2 k2) from rfl)
        have HB := Lib.hid hb
        clear hb
        rcases hc with ⟨rfl, hv⟩ | ⟨rfl, hv⟩ | ⟨rfl, hv⟩
        · have HV := Lib.hid hv
          clear hv
          go_wp2_with
            (refine wpList_append_ints rfl (.tmp 31) (.tmp 32) rfl rfl HV.out A1 n1 k1 zs1 rfl (H1.out.below HB.out) HL1.out (by omega) ?_
             intro v3 w3 row hv3 hg3 hr3
             have HV3 := Lib.hid hv3
             have HG3 := Lib.hid hg3
             have HR3 := Lib.hid hr3
             clear hv3 hg3 hr3)
          go_roundw
          case rel =>
            refine ⟨HB.out.grown HG3.out HB.out.size (fun g hg => ?_), .inr (.inl ⟨rfl, ?_⟩)⟩
            · rcases HR3.out with h | ⟨g', cs, h, hf, _⟩
              · rw [h] at hg; cases hg
              · rw [h] at hg; injection hg with hg; subst hg; exact hf.1
            · have hv := HV3.out
              rw [Nat.zero_add, List.nil_append] at hv
              exact hv.mono fun g hg h => by
                rcases h with h | h
                · exact ⟨h.1, hg⟩
                · exact ⟨Nat.le_trans HB.out.size h.1, hg⟩
          case measure => simp [intOf]
        · have HV := Lib.hid hv
          clear hv
          go_wp2_with
            (refine wpList_append_ints rfl (.tmp 31) (.tmp 32) rfl rfl HV.out A2 n2 k2 zs2 rfl (H2.out.below HB.out) HL2.out (by omega) ?_
             intro v3 w3 row hv3 hg3 hr3
             have HV3 := Lib.hid hv3
             have HG3 := Lib.hid hg3
             have HR3 := Lib.hid hr3
             clear hv3 hg3 hr3)
          go_roundw
          case rel =>
            refine ⟨HB.out.grown HG3.out HB.out.size (fun g hg => ?_), .inr (.inr ⟨rfl, ?_⟩)⟩
            · rcases HR3.out with h | ⟨g', cs, h, hf, _⟩
              · rw [h] at hg; cases hg
              · rw [h] at hg; injection hg with hg; subst hg; exact hf.1
            · have hv := HV3.out
              rw [← List.map_append] at hv
              exact hv.mono fun g hg h => by
                rcases h with h | h
                · exact ⟨h.1, hg⟩
                · exact ⟨Nat.le_trans HB.out.size h.1, hg⟩
          case measure => simp [intOf]
        · have HV := Lib.hid hv
          clear hv
          go_wp2_with fail
          go_ret
          exact ⟨_, rfl, HV.out, HB.out⟩
end Go.Proofs.Ytomncfiklkhfjaa.Pl
