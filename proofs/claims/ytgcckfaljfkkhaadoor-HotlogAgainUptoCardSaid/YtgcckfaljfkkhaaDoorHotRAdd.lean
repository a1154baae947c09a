/- The reference's 'Add'. -/
import Derived.Test.YtgcckfaljfkkhaaDoorHotRFit
namespace Go.Proofs.YtgcckfaljfkkhaaDoor.Hot
open Go Go.RowKit Mem Pl
theorem rbyteTy : ElTy Tryd.prog 41 5 1 1 (.int .u8 0) := ⟨Tryd.underlying41, by kernel_rfl, by kernel_rfl, by decide⟩
theorem rrowTy : ElTy Tryd.prog 43 41 1 24 (.slice none 0 0) := ⟨Tryd.underlying43, by kernel_rfl, by kernel_rfl, by decide⟩
theorem B8_one (b : List UInt8) : ∀ u ∈ b.map B8, u.oneCell' = true := fun u hu => by
  obtain ⟨x, _, rfl⟩ := List.mem_map.1 hu
  rfl
/-- 'append' onto a slice with no room: a copy of its own. -/
theorem wpList_append_clone {w : World} {ops : Array Oper} {rest : List Oper} {o : Oper} {a : Act} {Q : Exit → Act → World → Prop} (hgd : o.guard = none) (s x : Operand)
    (ho : o.op = .call { callee := .builtin .append, args := #[s, x], argTypes := #[41, 41] }) (A0 : Option Addr) (hs : a.eval s = .slice A0 0 0) (B : Option Addr) (m d : Nat) (bs : List UInt8) (hx : a.eval x = .slice B m d) (hb : BAt w B bs) (hm : bs.length = m) (hbytes : m ≤ 140737488355328)
    (h : ∀ v' w', ByAt w' (Grow (fun _ => False) w w') bs v' → Below w.heap.size w w' → wpList Tryd.prog ops Q rest (a.put o.dst v') w') : wpList Tryd.prog ops Q (o :: rest) a w := by
  have hv : Vec w (fun _ => False) 5 1 (.slice A0 0 0) 0 [] := Vec.nil_ _ _ _ _ _
  have fin : ∀ v' w' (row : Option Nat), Vec w' (Grow (fun _ => False) w w') 5 1 v' (0 + m) ([] ++ bs.map B8) → w.grownBy w' row → (row = none ∨ ∃ g cs, row = some g ∧ False ∧ w.heap[g]? = some (Obj.cells cs 5 (0, 0))) → wpList Tryd.prog ops Q rest (a.put o.dst v') w' := fun v' w' row h1 h2 h3 => by
    refine h v' w' ?_ ((Below.refl _ _).grown h2 (Nat.le_refl _) fun k hk => ?_)
    · unfold ByAt
      rw [hm]
      simpa using h1
    · rcases h3 with rfl | ⟨_, _, _, h, _⟩
      · cases hk
      · cases h
  cases B with
  | some ad =>
    refine wpList_append_vec hgd s x _ ho 1 _ rbyteTy hs hv ad m d (bs.map B8) hx (by simp [hm]) (fun j u hu => ?_) (B8_one bs) (by unfold maxLen; omega) (by omega) fin
    have hj : j < bs.length := by have := (List.getElem?_eq_some_iff.1 hu).1; simpa using this
    obtain ⟨ad', hA, hc⟩ := hb (by omega)
    injection hA with hA
    subst hA
    rw [hc j hj]
    simp [hj] at hu
    rw [← hu]
    simp [hj, B8]
  | none =>
    have h0 : m = 0 := by
      rcases Nat.eq_zero_or_pos m with h | h
      · exact h
      · obtain ⟨_, hA, _⟩ := hb (by omega)
        cases hA
    subst h0
    have hbs : bs = [] := List.eq_nil_of_length_eq_zero hm
    subst hbs
    refine wpList_append_run hgd s x _ _ ho _ _ (.slice A0 0 0) w hs hx ?_ (fin _ _ none (Vec.nil_ _ _ _ _ _) (World.grownBy.refl w _) (.inl rfl))
    obtain ⟨i, hi, _⟩ := rbyteTy.info
    cases A0 <;> simp [Builtin.append_, run_underlying rbyteTy.ht, sizeOf, typeInfo, hi, Builtin.lenOf, Builtin.firstCells, loadCells, loadCellsFrom, storeCells]
section
variable {w w' : World} {G : Nat → Prop} {r dev N : Nat} {used : List Pc} {bytes : List (List UInt8)} {U V : Value} {vs : List Value}
theorem row_ne {row : Option Nat} {t : TypeId} (hr : row = none ∨ ∃ g cs, row = some g ∧ G g ∧ w.heap[g]? = some (Obj.cells cs t (0, 0))) (g : Nat) (t' : TypeId) (cs : Array Value) (ht : t' ≠ t) (hh : w.heap[g]? = some (Obj.cells cs t' (0, 0))) : some g ≠ row := fun e => by
  rcases hr with rfl | ⟨g', cs', rfl, _, hh'⟩
  · cases e
  · injection e with e
    subst e
    rw [hh] at hh'
    injection hh' with hh'
    injection hh' with _ hh'
    exact ht hh'
theorem row_keep {row : Option Nat} {t : TypeId} (hg : w.grownBy w' row) (hr : row = none ∨ ∃ g cs, row = some g ∧ G g ∧ w.heap[g]? = some (Obj.cells cs t (0, 0))) (t' : TypeId) (ht : t' ≠ t) (g : Nat) (cs : Array Value) (hh : w.heap[g]? = some (Obj.cells cs t' (0, 0))) : w'.heap[g]? = some (Obj.cells cs t' (0, 0)) :=
  (hg.block g (Array.getElem?_eq_some_iff.1 hh).1 (row_ne hr g _ _ ht hh)).trans hh
theorem row_mods {row : Option Nat} {t : TypeId} (hg : w.grownBy w' row) (hr : row = none ∨ ∃ g cs, row = some g ∧ G g ∧ w.heap[g]? = some (Obj.cells cs t (0, 0))) (hG : G r) (i : Nat) (u : Value) : Mods w.heap.size G w (w'.setCell ⟨r, i, none⟩ u) := by
  refine ((Mods.refl w.heap.size G w).grown hg (Nat.le_refl _) fun g e => ?_).setCell (.inl hG) _
  rcases hr with rfl | ⟨g', cs', rfl, hf, _⟩
  · cases e
  · injection e with e
    subst e
    exact .inl hf
theorem RHotC.pushU {U' : Value} {row : Option Nat} {p : Pc} (x : RHotC w G r dev N used bytes U V vs) (hg : w.grownBy w' row)
    (hr : row = none ∨ ∃ g cs, row = some g ∧ G g ∧ w.heap[g]? = some (Obj.cells cs 36 (0, 0))) (hv : Vec w' (Grow G w w') 36 4 U' (used.length + 1) (used.flatMap (pcCells dev) ++ pcCells dev p)) :
    RHotC (w'.setCell ⟨r, 2, none⟩ U') (Grow G w w') r dev N (used ++ [p]) bytes U' V vs ∧ Blk w' r 62 #[.int .i64 (dev : Int), .int .i64 (N : Int), U, V] ∧ Mods w.heap.size G w (w'.setCell ⟨r, 2, none⟩ U') := by
  have hb : Blk w' r 62 #[.int .i64 (dev : Int), .int .i64 (N : Int), U, V] := x.blk.grown hg (row_ne hr r _ _ (by decide) x.blk)
  refine ⟨⟨by simpa using hb.set_ 2 U', .inl x.own, ?_, ?_, fun k b hk => ?_⟩, hb, row_mods hg hr x.own 2 U'⟩
  · have := hv.far (p := ⟨r, 2, none⟩) hb (by decide) U'
    rw [List.flatMap_append, List.length_append]
    simpa using this
  · exact ((x.rows.heap (w' := w') (row_keep hg hr _ (by decide))).far (p := ⟨r, 2, none⟩) hb (by decide) U').mono fun g _ hg => .inl hg
  · obtain ⟨v, h1, h2⟩ := x.bv k b hk
    exact ⟨v, h1, ((Vec.heap (w' := w') h2 (row_keep hg hr _ (by decide))).far (p := ⟨r, 2, none⟩) hb (by decide) U').mono fun g _ hg => .inl hg⟩
theorem RHotC.pushV {V' v0 : Value} {row : Option Nat} {b0 : List UInt8} (x : RHotC w G r dev N used bytes U V vs) (hb0 : ByAt w G b0 v0) (hg : w.grownBy w' row)
    (hr : row = none ∨ ∃ g cs, row = some g ∧ G g ∧ w.heap[g]? = some (Obj.cells cs 41 (0, 0))) (hv : Vec w' (Grow G w w') 41 1 V' (bytes.length + 1) (vs ++ [v0])) :
    RHotC (w'.setCell ⟨r, 3, none⟩ V') (Grow G w w') r dev N used (bytes ++ [b0]) U V' (vs ++ [v0]) ∧ Blk w' r 62 #[.int .i64 (dev : Int), .int .i64 (N : Int), U, V] ∧ Mods w.heap.size G w (w'.setCell ⟨r, 3, none⟩ V') := by
  have hb : Blk w' r 62 #[.int .i64 (dev : Int), .int .i64 (N : Int), U, V] := x.blk.grown hg (row_ne hr r _ _ (by decide) x.blk)
  have hkeep : ∀ b v, ByAt w G b v → ByAt (w'.setCell ⟨r, 3, none⟩ V') (Grow G w w') b v := fun b v h2 => ((Vec.heap (w' := w') h2 (row_keep hg hr _ (by decide))).far (p := ⟨r, 3, none⟩) hb (by decide) V').mono fun g _ hg => .inl hg
  have hvl : vs.length = bytes.length := by have := x.rows.len; omega
  refine ⟨⟨by simpa using hb.set_ 3 V', .inl x.own, ?_, ?_, fun k b hk => ?_⟩, hb, row_mods hg hr x.own 3 V'⟩
  · exact ((x.uv.heap (w' := w') (row_keep hg hr _ (by decide))).far (p := ⟨r, 3, none⟩) hb (by decide) V').mono fun g _ hg => .inl hg
  · have := hv.far (p := ⟨r, 3, none⟩) hb (by decide) V'
    rw [List.length_append]
    simpa using this
  · rcases Nat.lt_or_ge k bytes.length with h | h
    · rw [List.getElem?_append_left h] at hk
      obtain ⟨v, h1, h2⟩ := x.bv k b hk
      exact ⟨v, by rw [List.getElem?_append_left (by omega)]; exact h1, hkeep b v h2⟩
    · rw [List.getElem?_append_right h] at hk
      have hk0 : k - bytes.length = 0 := by
        have := (List.getElem?_eq_some_iff.1 hk).1
        simp at this
        exact this
      rw [hk0] at hk
      simp at hk
      subst hk
      exact ⟨v0, by rw [List.getElem?_append_right (by omega), hvl, hk0]; rfl, hkeep _ _ hb0⟩
end
set_option maxRecDepth 100000 in
set_option maxHeartbeats 4000000 in
theorem radd_any {w : World} {G : Nat → Prop} {r dev N : Nat} {used : List Pc} {bytes : List (List UInt8)} {U V : Value} {vs : List Value} (x : RHotB w G r dev N used bytes U V vs) (p : Pc) (b : List UInt8) (A : Option Addr) (m cap : Nat) (hb : BAt w A b) (hm : b.length = m) (hml : m ≤ 140737488355328)
    (hfr : ∀ ad, A = some ad → 0 < m → ad.block < w.heap.size ∧ ¬ G ad.block) (hul : used.length ≤ 1000000000) :
    Calls Tryd.prog 45 #[.pointer (some ⟨r, 0, none⟩), .agg #[.int .i64 (dev : Int), .int .i64 (p.1 : Int), .int .i64 (p.2 : Int), .bool false], .slice A m cap] w fun e w' =>
      e = .returned (.tuple #[]) ∧ RHotAt w' (Grow G w w') r dev N (used ++ [p]) (bytes ++ [b]) ∧ Mods w.heap.size G w w' := by
  have HX := Lib.hid x
  have HB := Lib.hid hb
  have HFR := Lib.hid hfr
  have HM := Lib.hid hm
  have hbl : bytes.length ≤ 1000000000 := by have := x.eq; omega
  have HEQ := Lib.hid x.eq
  clear x hb hfr hm
  go_enter Tryd.func45, Tryd.ntmps45
  go_wp2_with fail
  have hb1 : Below w.heap.size w (w.alloc (.cells #[.int .i64 (dev : Int), .int .i64 (p.1 : Int), .int .i64 (p.2 : Int), .bool false] 36)) := below_al' _
  have HB1 := Lib.hid hb1
  have HK1 := Lib.hid (Blk.new w 36 #[.int .i64 (dev : Int), .int .i64 (p.1 : Int), .int .i64 (p.2 : Int), .bool false])
  have HX1 := Lib.hid (HX.out.toRHotC.below hb1)
  clear hb1
  generalize w.alloc (.cells #[.int .i64 (dev : Int), .int .i64 (p.1 : Int), .int .i64 (p.2 : Int), .bool false] 36) = w4 at *
  have d0 := (HK1.out.cell 0).trans (show _ = some (.int .i64 (dev : Int)) from rfl)
  have d1 := (HK1.out.cell 1).trans (show _ = some (.int .i64 (p.1 : Int)) from rfl)
  have d2 := (HK1.out.cell 2).trans (show _ = some (.int .i64 (p.2 : Int)) from rfl)
  have d3 := (HK1.out.cell 3).trans (show _ = some (.bool false) from rfl)
  have e2 := HX1.out.c2
  have hlr := HX1.out.blk.lt
  have hlk := HK1.out.lt
  have hba4 : Below w4.heap.size w4 (w4.drew.alloc (.cells #[.int .i64 (dev : Int), .int .i64 (p.1 : Int), .int .i64 (p.2 : Int), .bool false] 36)) := Below.trans (show Below w4.heap.size w4 w4.drew from below_drewN (Below.refl _ _) 1) (show Below w4.heap.size w4.drew _ from below_al' (w := w4.drew) _)
  have HBA := Lib.hid hba4
  have HX5 := Lib.hid (HX1.out.below hba4)
  have HZ5 := Lib.hid hba4.size
  clear hba4
  obtain ⟨AU, cU, rfl⟩ := HX1.out.uv.shape
  refine Ord.region_ord [] [0, 1, 2, 3, 4, 5, 6, 7, 8, 9, 10] (by kernel_rfl) (by kernel_rfl) (by kernel_rfl) (by kernel_rfl) (Ord.ord_all [_, _, _, _, _, _, _, _, _, _, _] rfl (by kernel_rfl) ?_)
  go_wp2_with
    (refine wpList_buildSlice_row rfl 22 36 (.tmp 11) rfl placeTy (pcCells dev p) rfl (show _ = 1 * 4 from rfl) (by omega) w4.heap.size rfl ?_
     go_wp2_with
       (refine wpList_append_vec rfl (.tmp 10) (.tmp 12) _ rfl 32 _ placeTy rfl HX5.out.uv ⟨w4.heap.size, 0, none⟩ 1 1 (pcCells dev p) rfl (show _ = 1 * 4 from rfl) (blk_news (Blk.new w4.drew _ _)) (pc_one dev p) ?c1 ?c2 ?_
        case c1 => unfold maxLen; omega
        case c2 => omega
        intro W4 w5 row hv5 hg5 hr5
        obtain ⟨A5, c5, rfl⟩ := hv5.shape
        obtain ⟨hh1, hh2, hh3⟩ := HX5.out.pushU hg5 hr5 hv5
        have h5 := (hh2.cell 2).trans (show _ = some (.slice AU used.length cU) from rfl)
        have z5 := hh2.frozen 2
        have HH1 := Lib.hid hh1
        have HH3 := Lib.hid hh3
        clear hv5 hg5 hr5 hh1 hh2 hh3 d0 d1 d2 d3 e2))
  refine Ord.nx_end ?_
  go_wp2_with fail
  have hm6 := (((Mods.of_below (F := G) HB1.out).then_below HBA.out HB1.out.size).trans (HH3.out.mono (Nat.le_trans HB1.out.size HZ5.out) fun g _ hg => hg))
  have hx6 := HH1.out.mono (G' := Grow G w (w5.setCell ⟨r, 2, none⟩ (.slice A5 (used.length + 1) c5))) fun g hlt hg => by
    rcases hg with hg | ⟨h6, h7⟩
    · exact .inl hg
    · exact .inr ⟨Nat.le_trans (Nat.le_trans HB1.out.size HZ5.out) h6, hlt⟩
  have hb6 : BAt (w5.setCell ⟨r, 2, none⟩ (.slice A5 (used.length + 1) c5)) A b := HB.out.keep fun ad k u hA hk hc => by
    obtain ⟨h1, h2⟩ := HFR.out ad hA (by have := HM.out; omega)
    have := hm6.keep ad.block h1 h2
    simp only [World.cell?, addr_block] at hc ⊢
    rw [this]
    exact hc
  have HM6 := Lib.hid hm6
  have HX6 := Lib.hid hx6
  have HB6 := Lib.hid hb6
  clear hm6 hx6 hb6 h5 z5 HH1 HH3 HX5 HBA HZ5 HX1 HX HB1 HK1 HB hlr hlk
  generalize w5.setCell ⟨r, 2, none⟩ (.slice A5 (used.length + 1) c5) = w6 at *
  have e3 := HX6.out.c3
  have hlr := HX6.out.blk.lt
  obtain ⟨AV, cV, rfl⟩ := HX6.out.rows.shape
  refine Ord.region_ord [7] [0, 1, 2, 3, 4, 6, 5, 7, 8, 9, 10, 11, 12] (by kernel_rfl) (by kernel_rfl) (by kernel_rfl) (by kernel_rfl) (Ord.ord_run [0, 1, 2, 3, 4, 6, 5] [_, _, _, _, _, _, _] rfl (by kernel_rfl) ?_)
  go_wp2_with fail
  refine Ord.nx_ord (Ord.ord_one rfl ?_)
  have hba6 : Below w6.heap.size w6 (w6.drew.alloc (.cells #[] 5)) := Below.trans (show Below w6.heap.size w6 w6.drew from below_drewN (Below.refl _ _) 1) (show Below w6.heap.size w6.drew _ from below_al' (w := w6.drew) _)
  have HBA := Lib.hid hba6
  have HB7 := Lib.hid (HB6.out.below hba6)
  clear hba6
  go_wp2_with
    (refine wpList_append_clone rfl (.tmp 21) (.tmp 22) rfl _ rfl A m cap b rfl HB7.out HM.out hml ?_
     intro v0 w7 hv7 hb7
     obtain ⟨A7, c7, rfl⟩ := Vec.shape hv7
     have HV7 := Lib.hid hv7
     have HB8 := Lib.hid hb7
     clear hv7 hb7)
  refine Ord.nx_and HB8.out (Ord.ord_all [_, _, _, _, _] rfl (by kernel_rfl) ?_)
  have hb67 : Below w6.heap.size w6 w7 := HBA.out.trans ((show Below (w6.drew.alloc (.cells #[] 5)).heap.size (w6.drew.alloc (.cells #[] 5)) w7 from HB8.out).mono HBA.out.size)
  have hsz6 : w6.heap.size ≤ (w6.drew.alloc (.cells #[] 5)).heap.size := HBA.out.size
  have hba7 : Below w7.heap.size w7 (w7.alloc (.cells #[.slice A7 b.length c7] 41)) := below_al' _
  have hx7 := ((HX6.out.below hb67).below hba7).mono (G' := Grow G w (w7.alloc (.cells #[.slice A7 b.length c7] 41))) fun g hlt hg => by
    rcases hg with hg | ⟨h6, h7⟩
    · exact .inl hg
    · exact .inr ⟨h6, hlt⟩
  have hwle : w.heap.size ≤ w6.heap.size := HM6.out.size
  have hv8 : ByAt (w7.alloc (.cells #[.slice A7 b.length c7] 41)) (Grow G w (w7.alloc (.cells #[.slice A7 b.length c7] 41))) b (.slice A7 b.length c7) := ((Vec.below (show Vec w7 _ _ _ _ _ _ from HV7.out) hba7).mono fun g hlt hg => by
    rcases hg with hg | ⟨h6, h7⟩
    · exact hg.elim
    · exact .inr ⟨Nat.le_trans hwle (Nat.le_trans hsz6 h6), hlt⟩)
  have hm7 : Mods w.heap.size G w (w7.alloc (.cells #[.slice A7 b.length c7] 41)) := (HM6.out.then_below hb67 hwle).then_below hba7 (Nat.le_trans hwle hb67.size)
  have HX7 := Lib.hid hx7
  have HV8 := Lib.hid hv8
  have HM7 := Lib.hid hm7
  have HX8 := Lib.hid (HX6.out.below hb67)
  have e3' := HX8.out.c3
  have HZ7 := Lib.hid (Nat.le_trans (Nat.le_trans hwle hb67.size) hba7.size)
  clear hb67 hsz6 hba7 hx7 hv8 hm7 e3 HV7 HB7
  go_wp2_with
    (refine wpList_append_vec rfl (.tmp 20) (.tmp 24) _ rfl 24 _ rrowTy rfl HX7.out.rows ⟨w7.heap.size, 0, none⟩ 1 1 [.slice A7 b.length c7] rfl (show _ = 1 * 1 from rfl) (blk_news (Blk.new w7 _ _)) (by intro u hu; simp at hu; subst hu; rfl) ?c1 ?c2 ?_
     case c1 => unfold maxLen; omega
     case c2 => omega
     intro W8 w8 row hv9 hg9 hr9
     obtain ⟨A9, c9, rfl⟩ := hv9.shape
     obtain ⟨hh1, hh2, hh3⟩ := HX7.out.pushV HV8.out hg9 hr9 hv9
     have h5 := (hh2.cell 3).trans (show _ = some (.slice AV bytes.length cV) from rfl)
     have z5 := hh2.frozen 3
     have HH1 := Lib.hid hh1
     have HH3 := Lib.hid hh3
     clear hv9 hg9 hr9 hh1 hh2 hh3)
  refine Ord.nx_end ?_
  go_wp2_with fail
  go_end0
  refine ⟨rfl, ⟨_, _, _, HH1.out.mono fun g hlt hg => ?_, by simp; exact HEQ.out⟩, HM7.out.trans (HH3.out.mono HZ7.out fun g hlt hg => ?_)⟩
  · rcases hg with (hg | ⟨h6, h7⟩) | ⟨h6, h7⟩
    · exact .inl hg
    · exact .inr ⟨h6, hlt⟩
    · exact .inr ⟨Nat.le_trans HZ7.out h6, hlt⟩
  · rcases hg with hg | ⟨h6, h7⟩
    · exact hg
    · omega
end Go.Proofs.YtgcckfaljfkkhaaDoor.Hot
