/- The states of the reference's Clone. -/
import Derived.Test.YtomncfiklkhfjaaFold19
import Derived.Test.YtomncfiklkhfjaaFold12
import Derived.Test.YtomncfiklkhfjaaFold10
import Derived.Test.YtomncfiklkhfjaaPlRot
import Derived.Test.YtomncfiklkhfjaaRefRd
import Derived.Test.YtomncfiklkhfjaaRefApp
import Derived.Test.YtomncfiklkhfjaaRefBoot
import Derived.Test.YtomncfiklkhfjaaRefRot
import Derived.Test.YtomncfiklkhfjaaFold5
import Derived.Test.YtomncfiklkhfjaaFold8
import Derived.Test.YtomncfiklkhfjaaFold2
import Derived.Deep.QuietTactic
import Derived.BigQuiet
import Derived.Deep.CutRange
import Derived.Deep.CutBlock
import Derived.Deep.LoopGhost
namespace Go.Proofs.Ytomncfiklkhfjaa.Ref
open Go Go.RowKit Mem Pl
variable {S : Nat → Prop}
/-- A row copied onto an empty one. -/
theorem wpList_copy_vec {P : Program} {w : World} {F : Nat → Prop} {e : TypeId} {size n : Nat} {xs : List Value} {ops : Array Oper} {rest : List Oper} {o : Oper} {a : Act} {Q : Exit → Act → World → Prop} (hgd : o.guard = none) (s x : Operand) (t : TypeId)
    (ho : o.op = .call { callee := .builtin .append, args := #[s, x], argTypes := #[t, t] }) (bytes : Nat) (z : Value) (T : ElTy P t e size bytes z)
    (D : Option Addr) (hs : a.eval s = .slice D 0 0) (A : Option Addr) (c : Nat) (hx : a.eval x = .slice A n c) (hv : Vec w F e size (.slice A n c) n xs) (h1 : ∀ u ∈ xs, u.oneCell' = true) (hm : n ≤ maxLen) (hbytes : n * bytes ≤ 140737488355328)
    (h : ∀ (A' : Option Addr) (k' : Nat) (w' : World), Vec w' (New w w') e size (.slice A' n k') n xs → Below w.heap.size w w' → ((Value.slice A' n k').ownBlock = (Value.slice D 0 0).ownBlock ∨ (Value.slice A' n k').ownBlock = some w.heap.size ∧ w.heap.size < w'.heap.size) → wpList P ops Q rest (a.put o.dst (.slice A' n k')) w') : wpList P ops Q (o :: rest) a w :=
  wpList_plain hgd fun _ hK => by
    unfold Oper.wp execOp
    by_cases hn : n = 0
    · subst hn
      have hx0 : xs = [] := List.eq_nil_of_length_eq_zero (by have := hv.len; simpa using this)
      subst hx0
      obtain ⟨i, hi, hz, hsz, hby⟩ := T.info
      have hrun : (Builtin.append_ #[t, t] o.type #[.slice D 0 0, .slice A 0 c]).run P w = .ok (.slice D 0 0) w := by
        cases D <;> cases A <;> simp [Builtin.append_, run_underlying T.ht, sizeOf, typeInfo, hi, Builtin.lenOf, Builtin.firstCells, loadCells, loadCellsFrom, storeCells]
      simp only [ho, resolve, invoke, builtin, Sem.run_bind, Sem.run_pure, Result.andThen_ok, List.map_toArray, List.map_cons, List.map_nil, hs, hx, hrun]
      exact hK _ _ (h D 0 w (Vec.nil_ _ _ _ _ _) (Below.refl _ _) (.inl rfl))
    · obtain ⟨g, cap, cur, he, hf, hh, hnc, hcm, hcs, htk⟩ := hv.form (by omega)
      injection he with hA _ hc
      subst hA hc
      have hnews : ∀ j u, xs[j]? = some u → w.cell? ((⟨g, 0, none⟩ : Addr).add j) = some u := fun j u hu => by
        have := hv.at_ hu
        have e : (Addr.add ⟨g, 0, none⟩ j) = ⟨g, j, none⟩ := by
          unfold Addr.add
          split
          · rename_i h; subst h; rfl
          · simp
        rw [e]
        exact this
      obtain ⟨v', w', row, hrun, h2, h3, h4, h5⟩ := run_append_vec2 (P := P) t o.type bytes z T (Vec.nil_ w (fun _ => False) e size D) ⟨g, 0, none⟩ n c xs (by rw [hv.len]) hnews h1 (by omega) (by simpa using hbytes) (by omega)
      have hrow : row = none := by
        rcases h4 with h4 | ⟨g', cs, _, hf', _⟩
        · exact h4
        · exact hf'.elim
      subst hrow
      rw [Nat.zero_add, List.nil_append] at h2
      obtain ⟨A', k', rfl⟩ := h2.shape
      have hbw : Below w.heap.size w w' := (Below.refl _ _).grown h3 (Nat.le_refl _) fun g hg' => by cases hg'
      simp only [ho, resolve, invoke, builtin, Sem.run_bind, Sem.run_pure, Result.andThen_ok, List.map_toArray, List.map_cons, List.map_nil, hs, hx, hrun]
      refine hK _ _ (h A' k' w' (h2.mono fun g _ hg => ?_) hbw ?_)
      · rcases hg with hg | hg
        · exact hg.elim
        · exact hg
      · rcases h5 with h5 | h5
        · exact .inl h5
        · refine .inr ⟨h5, ?_⟩
          obtain ⟨g2, cap2, cur2, he2, hf2, hh2, _⟩ := h2.form (by omega)
          injection he2 with he2
          subst he2
          injection h5 with h5
          subst h5
          exact lt_heap hh2
/-- So many devices are copied. -/
def CloR (S : Nat → Prop) (w : World) (D T W : Value) (left : Int) (p : PM) (kv : Value) (wr : World) : Prop :=
  ∃ (i : Nat) (V' : Value), i ≤ p.devs.length ∧ kv = .int .i64 (i : Int) ∧ Below w.heap.size w wr ∧ Blk wr w.heap.size 78 (rfCells D T V' W left p).toArray ∧ HasAt S wr (New w wr) V' ((p.devs.map (·.has)).take i)
theorem CloR.next {w wr w3 w5 : World} {i : Nat} {D T V W V5 lv : Value} {left : Int} {p : PM} {rows : List Value} {row : Option Nat} {l : List (List UInt8)}
    (hin : i < p.devs.length) (hbl : Below w.heap.size w wr) (hblk : Blk wr w.heap.size 78 (rfCells D T V W left p).toArray)
    (hlen : rows.length = i) (h2 : ∀ (j : Nat) (l : List (List UInt8)), ((p.devs.map (·.has)).take i)[j]? = some l → ∃ v, rows[j]? = some v ∧ RowAt S wr (New w wr) v l)
    (h3 : ∀ (i j g : Nat), (rows[i]?).bind Value.ownBlock = some g → (rows[j]?).bind Value.ownBlock = some g → i = j) (h4 : ∀ (i g : Nat), (rows[i]?).bind Value.ownBlock = some g → New w wr g ∧ g < wr.heap.size)
    (hb3 : Below wr.heap.size wr w3) (hrow : RowAt S w3 (New w w3) lv l) (hlv : ∀ g, lv.ownBlock = some g → wr.heap.size ≤ g ∧ g < w3.heap.size) (hl : (p.devs.map (·.has))[i]? = some l)
    (hg : (w3.alloc (.cells #[lv] 79)).grownBy w5 row) (hr : row = none ∨ ∃ g cs, row = some g ∧ New w wr g ∧ (w3.alloc (.cells #[lv] 79)).heap[g]? = some (Obj.cells cs 79 (0, 0)))
    (hV : Vec w5 (Grow (New w wr) (w3.alloc (.cells #[lv] 79)) w5) 79 1 V5 (i + 1) (rows ++ [lv])) :
    CloR S w D T W left p (.int .i64 ((i : Int) + 1)) (w5.setCell ⟨w.heap.size, 2, none⟩ V5) := by
  have hb4 : Below wr.heap.size wr (w3.alloc (.cells #[lv] 79)) := hb3.trans ((below_al' _).mono hb3.size)
  have hsz4 : w3.heap.size ≤ (w3.alloc (.cells #[lv] 79)).heap.size := (below_al' (w := w3) _).size
  have hr' : row = none ∨ ∃ g cs, row = some g ∧ (w3.alloc (.cells #[lv] 79)).heap[g]? = some (Obj.cells cs 79 (0, 0)) := hr.imp id fun ⟨g, cs, x, _, y⟩ => ⟨g, cs, x, y⟩
  have hblk5 : Blk w5 w.heap.size 78 (rfCells D T V W left p).toArray := keep_ty hg hr' (by decide) _ _ (hblk.below_ hb4)
  have hkt6 : ∀ (t : TypeId), t ≠ 78 → ∀ (g : Nat) (cs : Array Value), w5.heap[g]? = some (Obj.cells cs t (0, 0)) → (w5.setCell ⟨w.heap.size, 2, none⟩ V5).heap[g]? = some (Obj.cells cs t (0, 0)) := fun t ht g cs h =>
    Blk.far (w := w5) (g := g) (t := t) (cs := cs) h (Blk.ne_ (w := w5) (g := g) (t := t) (cs := cs) h hblk5 ht) V5
  have hsz5 := hg.size
  have hsz6 : (w5.setCell ⟨w.heap.size, 2, none⟩ V5).heap.size = w5.heap.size := by simp
  have hil : ((p.devs.map (·.has)).take i).length = i := by
    rw [List.length_take, List.length_map]
    omega
  refine ⟨i + 1, V5, hin, by simp, ?_, ?_, ?_⟩
  · refine Mods.below (F := fun _ => False) (((Mods.of_below (hbl.trans (hb4.mono hbl.size))).grown hg (Nat.le_trans hbl.size hb4.size) fun g hg => .inr ?_).setCell (.inr (Nat.le_refl _)) V5) fun _ _ h => h
    rcases hr with h | ⟨g', cs', h, hn, _⟩
    · rw [h] at hg; cases hg
    · rw [h] at hg
      injection hg with hg
      subst hg
      exact hn.1
  · have hb := hblk5.set_ 2 V5
    simpa [rfCells] using hb
  · have htake : (p.devs.map (·.has)).take (i + 1) = (p.devs.map (·.has)).take i ++ [l] := by
      rw [List.take_add_one, hl]
      rfl
    rw [htake]
    have hp : HasAt S w5 (New w w5) V5 ((p.devs.map (·.has)).take i ++ [l]) := by
      refine HasAt.push (v := lv) (w := w3.alloc (.cells #[lv] 79)) (F := New w (w3.alloc (.cells #[lv] 79))) (B := wr.heap.size) (row := row) (by rw [hil]; exact hlen) (fun j l' hl' => ?_) h3 (fun j g hj => ?_) hb4.size ?_ (fun g hgv => ?_) hg hr' (fun g h => ⟨h.1, Nat.lt_of_lt_of_le h.2 hsz5⟩) ?_
      · obtain ⟨v, h5, h6⟩ := h2 j l' hl'
        exact ⟨v, h5, (h6.mods (Mods.of_below (F := fun _ => False) hb4) (fun g hg _ => ⟨hg, fun x => x⟩) (RMods.of_below (F := fun _ => False) hb4).bytes).mono fun g _ h => ⟨h.1, Nat.lt_of_lt_of_le h.2 hb4.size⟩⟩
      · exact ⟨⟨(h4 j g hj).1.1, Nat.lt_of_lt_of_le (h4 j g hj).2 hb4.size⟩, (h4 j g hj).2⟩
      · have hb34 : Below w3.heap.size w3 (w3.alloc (.cells #[lv] 79)) := below_al' _
        exact (hrow.mods (Mods.of_below (F := fun _ => False) hb34) (fun g hg _ => ⟨hg, fun x => x⟩) (RMods.of_below (F := fun _ => False) hb34).bytes).mono fun g _ h => ⟨h.1, Nat.lt_of_lt_of_le h.2 hsz4⟩
      · have h5 := hlv g hgv
        exact ⟨h5.1, ⟨Nat.le_trans hbl.size h5.1, Nat.lt_of_lt_of_le h5.2 hsz4⟩, Nat.lt_of_lt_of_le h5.2 hsz4⟩
      · rw [hil]
        exact hV.mono fun g hlt h => by
          rcases h with h | h
          · exact ⟨h.1, hlt⟩
          · exact ⟨Nat.le_trans (Nat.le_trans hbl.size hb4.size) h.1, hlt⟩
    exact (hp.heap (hkt6 _ (by decide)) (hkt6 _ (by decide)) ⟨hkt6 _ (by decide), hkt6 _ (by decide)⟩ (by rw [hsz6]; exact Nat.le_refl _)).mono fun g _ h => ⟨h.1, by rw [hsz6]; exact h.2⟩
end Go.Proofs.Ytomncfiklkhfjaa.Ref
/- The reference's Clone. -/
namespace Go.Proofs.Ytomncfiklkhfjaa.Ref
open Go Go.RowKit Mem Pl
variable {S : Nat → Prop}
theorem row_one {w : World} {l : List (List UInt8)} {vs : List Value} (hl : vs.length = l.length) (h : ∀ (k : Nat) (b : List UInt8), l[k]? = some b → ∃ v, vs[k]? = some v ∧ SecOk S w b v) : ∀ u ∈ vs, u.oneCell' = true := by
  intro u hu
  obtain ⟨k, hk, rfl⟩ := List.getElem_of_mem hu
  obtain ⟨v, h1, h2⟩ := h k l[k] (List.getElem?_eq_getElem (by omega))
  rw [List.getElem?_eq_getElem hk] at h1
  injection h1 with h1
  rw [h1]
  obtain ⟨A, c, rfl, _⟩ := h2.slice
  rfl
theorem waits_one {w : World} {ws : List Wr} {rows : List (List Value)} (hl : rows.length = ws.length) (h : ∀ (i : Nat) x, ws[i]? = some x → ∃ v, rows[i]? = some [natV x.dev, natV x.place, v] ∧ SecOk S w x.b v) : ∀ u ∈ rows.flatten, u.oneCell' = true := by
  intro u hu
  obtain ⟨row, hr, hur⟩ := List.mem_flatten.1 hu
  obtain ⟨k, hk, rfl⟩ := List.getElem_of_mem hr
  obtain ⟨v, h1, h2⟩ := h k ws[k] (List.getElem?_eq_getElem (by omega))
  rw [List.getElem?_eq_getElem hk] at h1
  injection h1 with h1
  rw [h1] at hur
  obtain ⟨A, c, rfl, _⟩ := h2.slice
  simp at hur
  rcases hur with rfl | rfl | rfl <;> rfl
set_option maxRecDepth 100000 in
set_option maxHeartbeats 8000000 in
theorem clone_any {w : World} {F : Nat → Prop} {r : Nat} {p : PM} {left : Int} {D T V W : Value} (h : RefB S w F r p left D T V W) (hok : p.Ok) (hlow : p.Low) :
    Calls Try.prog 41 #[.pointer (some ⟨r, 0, none⟩)] w fun e w' => ∃ q, e = .returned (.pointer (some ⟨q, 0, none⟩)) ∧ RefAt S w' (New w w') q p ∧ Below w.heap.size w w' := by
  have HB := Lib.hid h
  obtain ⟨AD, cD, rfl⟩ := h.disks.shape
  obtain ⟨AT, cT, rfl⟩ := h.tapes.shape
  obtain ⟨AV, cV, rfl⟩ := h.has.shape
  obtain ⟨AW, cW, rfl⟩ := h.waits.shape
  have c0 := h.c0
  have c1 := h.c1
  have c2 := h.c2
  have c3 := h.c3
  have c4 := h.c4
  have c5 := h.c5
  have c6 := h.c6
  have c7 := h.c7
  have c8 := h.c8
  have hml : (p.devs.map (·.has)).length = p.devs.length := by simp
  rw [hml] at c2
  have hn12 := hok.n12
  have hwl := hlow.waits
  have hrl := h.blk.lt
  clear h
  go_enter Try.func41, Try.ntmps41
  go_wp2_with fail
  have HST : Hid (CloR S w (.slice AD p.disks.length cD) (.slice AT p.tapes.length cT) (.slice AW p.waits.length cW) left p (.int .i64 0) (w.alloc (.cells #[.slice AD p.disks.length cD, .slice AT p.tapes.length cT, .slice none 0 0, .slice AW p.waits.length cW, .bool p.off, .bool p.fuse.isSome, .int .i64 left, .int .i64 (p.steps : Int), .int .i64 (p.now : Int)] 78))) := Lib.hid
    ⟨0, .slice none 0 0, Nat.zero_le _, rfl, below_al' _, Blk.new _ _ _, HasAt.nil_ _ _⟩
  clear c0 c1 c2 c3 c4 c5 c6 c7 c8
  go_loopw [4] (fun kv wr => CloR S w (.slice AD p.disks.length cD) (.slice AT p.tapes.length cT) (.slice AW p.waits.length cW) left p kv wr) (fun kv _ => p.devs.length - (intOf kv).toNat)
  case atStart => exact HST.out
  case round =>
    obtain ⟨i, V', hi, rfl, hbl, hblk, hhas⟩ := hrel
    have HBL := Lib.hid hbl
    have HBK := Lib.hid hblk
    have hR := HB.out.below hbl
    have HR := Lib.hid hR
    have c2 := hR.c2
    have c3 := hR.c3
    rw [hml] at c2
    have hrl2 := hR.blk.lt
    have hsl := hblk.lt
    have htl : i ≤ p.devs.length → ((p.devs.map (·.has)).take i).length = i := fun h => by rw [List.length_take, List.length_map]; omega
    by_cases hlt : i < p.devs.length
    · have hiI : (i : Int) < (p.devs.length : Int) := by omega
      obtain ⟨d, hd⟩ : ∃ d, p.devs[i]? = some d := ⟨_, List.getElem?_eq_getElem hlt⟩
      have hmost := (hok.most i d hd).2.2
      have hlen : d.has.length ≤ 4096 := by
        cases ht : d.tape with
        | true => have := hok.room i d hd ht; omega
        | false => have := hok.disk i d hd ht; omega
      obtain ⟨gH, A', c', hA, _, hcell, hrow⟩ := hR.has.row (devs_has hd)
      subst hA
      have hgH := cell_lt hcell
      obtain ⟨vs, hvv, hsec⟩ := hrow
      have HVV := Lib.hid hvv
      have HSEC := Lib.hid hsec
      have HDH := Lib.hid (devs_has hd)
      obtain ⟨rows, hv1, hv2, hv3, hv4⟩ := hhas
      rw [htl hi] at hv1
      obtain ⟨A1, c1, rfl⟩ := hv1.shape
      have HV1 := Lib.hid hv1
      have HV2 := Lib.hid hv2
      have HV3 := Lib.hid hv3
      have HV4 := Lib.hid hv4
      have HRL : Hid (rows.length = i) := Lib.hid (by have := hv1.len; simpa using this)
      have s2 := (hblk.cell 2).trans (show _ = some (.slice A1 i c1) from rfl)
      clear hd hmost hvv hsec hv1 hv2 hv3 hv4 htl hblk hbl hR c3
      go_wp2_with fail
      have hb0 : Below wr.heap.size wr (wr.alloc (.cells #[] 28)).drew := (below_al' _).drew
      refine Ord.region_ord [10] [0, 1, 3, 4, 5, 6, 7, 8, 9, 2, 10, 11, 12, 13, 14] (by kernel_rfl) (by kernel_rfl) (by kernel_rfl) (by kernel_rfl) (Ord.ord_run [0, 1, 3, 4, 5, 6, 7, 8, 9, 2] [_, _, _, _, _, _, _, _, _, _] rfl (by kernel_rfl) ?_)
      go_wp2_with fail
      refine Ord.nx_ord (Ord.ord_one rfl ?_)
      refine wpList_copy_vec rfl (.tmp 20) (.tmp 27) _ rfl 24 _ rowTy _ rfl A' c' rfl (HVV.out.below hb0) (row_one (by have := HVV.out.len; simpa using this) HSEC.out) (by unfold maxLen; omega) (by omega) ?_
      intro A3 c3 w3 hv3 hb3 ho3
      have HB3 : Hid (Below wr.heap.size wr w3) := Lib.hid (hb0.trans (hb3.mono hb0.size))
      have HV3' := Lib.hid hv3
      have HO3 : Hid (∀ g, (Value.slice A3 d.has.length c3).ownBlock = some g → wr.heap.size ≤ g ∧ g < w3.heap.size) := Lib.hid fun g hg => by
        have hsz := hb3.size
        have h1 : (wr.alloc (.cells #[] 28)).drew.heap.size = wr.heap.size + 1 := by simp
        rcases ho3 with ho | ⟨ho, ho2⟩
        · rw [ho] at hg
          injection hg with hg
          have hg' : wr.heap.size = g := hg
          omega
        · rw [ho] at hg
          injection hg with hg
          omega
      have HRW : Hid (RowAt S w3 (New w w3) (.slice A3 d.has.length c3) d.has) := Lib.hid ⟨vs, hv3.mono fun g hg h => ⟨Nat.le_trans (Nat.le_trans HBL.out.size hb0.size) h.1, hg⟩, fun k b hb => (HSEC.out k b hb).imp fun v x => ⟨x.1, x.2.below HB3.out⟩⟩
      go_wp2_with fail
      refine Ord.nx_and hb3 (Ord.ord_all [_, _, _, _] rfl (by kernel_rfl) ?_)
      clear hb0 hb3 ho3 hv3
      go_wp2_with
        (refine wpList_append_vec rfl (.tmp 19) (.tmp 29) _ rfl 24 _ rowsTy rfl ((HV1.out.below HB3.out).alloc _) ⟨w3.heap.size, 0, none⟩ 1 1 [.slice A3 d.has.length c3] rfl rfl (blk_news (Blk.new w3 _ _)) (by intro v hv; simp at hv; subst hv; rfl) ?c1 ?c2 ?_
         case c1 => unfold maxLen; omega
         case c2 => omega
         intro V5 w5 row hv5 hg5 hr5
         obtain ⟨A5, c5, rfl⟩ := hv5.shape
         have hb5 := ((HBK.out.below_ HB3.out).alloc (.cells #[.slice A3 d.has.length c3] 79)).grown hg5 (by
           rcases hr5 with rfl | ⟨g, cs, rfl, _, hh⟩
           · simp
           · intro e
             injection e with e
             subst e
             have hx := (HBK.out.below_ HB3.out).alloc (.cells #[.slice A3 d.has.length c3] 79)
             unfold Blk at hx
             rw [hx] at hh
             injection hh with hh
             injection hh with _ hh
             exact absurd hh (by decide))
         have f2 := (hb5.cell 2).trans (show _ = some (.slice A1 i c1) from rfl)
         have g2 := hb5.frozen 2
         have HV5 := Lib.hid hv5
         have HG5 := Lib.hid hg5
         have HR5 := Lib.hid hr5
         clear hb5 hv5 hg5 hr5 s2)
      refine Ord.nx_end ?_
      go_wp2_with fail
      go_roundw
      case rel => exact CloR.next hlt HBL.out HBK.out HRL.out HV2.out HV3.out HV4.out HB3.out HRW.out HO3.out HDH.out HG5.out HR5.out HV5.out
      case measure => simp [intOf]; omega
    · obtain rfl : i = p.devs.length := by omega
      have hbw : Below wr.heap.size wr (wr.alloc (.cells #[] 112)) := below_al' _
      obtain ⟨rows, hw1, hw2, hw3⟩ := hR.waits
      obtain ⟨A1, c1, rfl⟩ := hhas.shape
      have HHS := Lib.hid hhas
      have HW1 := Lib.hid hw1
      have HW2 := Lib.hid hw2
      have HW3 := Lib.hid hw3
      have q3 := (hbw.cell (cell_lt c3)).trans c3
      clear hhas htl hw1 hw2 hw3 hR hblk hbl
      go_wp2_with
        (at_builtin
         refine wpList_copy_vec rfl (.tmp 32) (.tmp 36) _ rfl 40 _ waitTy _ rfl AW cW rfl (HW1.out.below hbw) (waits_one HW2.out HW3.out) (by unfold maxLen; omega) (by omega) ?_
         intro A3 c3' w3 hv3 hb3 ho3
         have hbm : Below wr.heap.size wr w3 := hbw.trans (hb3.mono hbw.size)
         have hbk := HBK.out.below_ hbm
         have k3 := (hbk.cell 3).trans (show _ = some (.slice AW p.waits.length cW) from rfl)
         have z3 := hbk.frozen 3
         have kl := hbk.lt
         have HB3 := Lib.hid hbm
         have HV3 := Lib.hid hv3
         have HK3 := Lib.hid hbk
         clear hbk hbm hv3 hb3 ho3)
      go_ret
      have hfar : ∀ (t : TypeId), t ≠ 78 → ∀ (g : Nat) (cs : Array Value), w3.heap[g]? = some (Obj.cells cs t (0, 0)) → (w3.setCell ⟨w.heap.size, 3, none⟩ (.slice A3 p.waits.length c3')).heap[g]? = some (Obj.cells cs t (0, 0)) := fun t ht g cs hh =>
        Blk.far (w := w3) (g := g) (t := t) (cs := cs) hh (p := ⟨w.heap.size, 3, none⟩) (Blk.ne_ (w := w3) (g := g) (t := t) (cs := cs) hh HK3.out ht) _
      have hsz : (w3.setCell ⟨w.heap.size, 3, none⟩ (.slice A3 p.waits.length c3')).heap.size = w3.heap.size := by simp
      have hbt : Below w.heap.size w (w3.setCell ⟨w.heap.size, 3, none⟩ (.slice A3 p.waits.length c3')) := ((Mods.of_below (F := fun _ => False) (HBL.out.trans (HB3.out.mono HBL.out.size))).setCell (p := ⟨w.heap.size, 3, none⟩) (.inr (Nat.le_refl _)) _).below fun _ _ h => h
      have hhs := HHS.out
      have hK3 := HK3.out
      rw [show (p.devs.map (·.has)).take p.devs.length = p.devs.map (·.has) from by rw [List.take_of_length_le (by simp)]] at hhs hK3
      have hm3 : Mods wr.heap.size (fun _ => False) wr w3 := Mods.of_below HB3.out
      refine ⟨w.heap.size, rfl, ⟨left, .slice AD p.disks.length cD, .slice AT p.tapes.length cT, .slice A1 (p.devs.map (·.has)).length c1, .slice A3 p.waits.length c3', ?_, ⟨Nat.le_refl _, by rw [hsz]; exact HK3.out.lt⟩, HB.out.hleft, HB.out.lrange, ?_, ?_, ?_, ?_⟩, hbt⟩
      · have hb := hK3.set_ 3 (.slice A3 p.waits.length c3')
        simpa [rfCells] using hb
      · exact (HB.out.disks.heap fun g cs hh => (hbt.block g (lt_heap hh)).trans hh)
      · exact (HB.out.tapes.heap fun g cs hh => (hbt.block g (lt_heap hh)).trans hh)
      · exact (((hhs.mods hm3 (fun g hg _ => ⟨hg, fun x => x⟩) (RMods.of_below (F := fun _ => False) HB3.out).bytes).mono (G := New w w3) fun g _ h => ⟨h.1, Nat.lt_of_lt_of_le h.2 HB3.out.size⟩).heap (hfar _ (by decide)) (hfar _ (by decide)) ⟨hfar _ (by decide), hfar _ (by decide)⟩ (by rw [hsz]; exact Nat.le_refl _)).mono fun g _ h => ⟨h.1, by rw [hsz]; exact h.2⟩
      · refine ⟨rows, (HV3.out.heap (hfar _ (by decide))).mono fun g _ h => ⟨Nat.le_trans (Nat.le_trans HBL.out.size hbw.size) h.1, by rw [hsz]; exact h.2⟩, HW2.out, fun i x hx => (HW3.out i x hx).imp fun v y => ⟨y.1, (y.2.below HB3.out).keep ⟨hfar _ (by decide), hfar _ (by decide)⟩⟩⟩
end Go.Proofs.Ytomncfiklkhfjaa.Ref
/- Two plants and two of the reference's, side by side within a law. -/
namespace Go.Proofs.Ytomncfiklkhfjaa.Ref
open Go Go.RowKit Mem Pl
section
variable {S S' : Nat → Prop} {w w' : World} {F G : Nat → Prop} {r : Nat} {p : PM} {V v : Value} {b : List UInt8} {l : List (List UInt8)} {hs : List (List (List UInt8))} {ws : List Wr}
theorem SecOk.monoS (h : SecOk S w b v) (hS : ∀ g, g < w.heap.size → S g → S' g) : SecOk S' w b v := by
  obtain ⟨g, c, cs, h1, h2, h3, h4, h5⟩ := h
  exact ⟨g, c, cs, h1, h2, h3, h4, hS g (lt_heap h2) h5⟩
theorem SecOk.keepS (h : SecOk S w b v) (hk : ∀ (g : Nat) (o : Obj), S g → w.heap[g]? = some o → w'.heap[g]? = some o) : SecOk S w' b v := by
  obtain ⟨g, c, cs, h1, h2, h3, h4, h5⟩ := h
  exact ⟨g, c, cs, h1, hk g _ h5 h2, h3, h4, h5⟩
theorem RowAt.map_ (h : RowAt S w F V l) (hv : ∀ vs, Vec w F 28 1 V l.length vs → Vec w' F 28 1 V l.length vs) (hs : ∀ b v, SecOk S w b v → SecOk S' w' b v) : RowAt S' w' F V l := by
  obtain ⟨vs, h1, h2⟩ := h
  exact ⟨vs, hv vs h1, fun k b hb => (h2 k b hb).imp fun v x => ⟨x.1, hs _ _ x.2⟩⟩
/-- What stays where the bytes stay. -/
theorem RefAt.map_ (h : RefAt S w G r p) (hv : ∀ {t : TypeId} {size n : Nat} {v : Value} {xs : List Value}, Vec w G t size v n xs → Vec w' G t size v n xs) (hi : ∀ {n : Nat} {v : Value} {xs : List Value}, Vec w S 3 1 v n xs → Vec w' S' 3 1 v n xs)
    (hs : ∀ b v, SecOk S w b v → SecOk S' w' b v) (hb : ∀ {t : TypeId} {cs : Array Value}, Blk w r t cs → Blk w' r t cs) (hsz : w.heap.size ≤ w'.heap.size) : RefAt S' w' G r p := by
  obtain ⟨left, D, T, V, W, h⟩ := h
  obtain ⟨rows, h1, h2, h3, h4⟩ := h.has
  obtain ⟨rws, k1, k2, k3⟩ := h.waits
  exact ⟨left, D, T, V, W, hb h.blk, h.own, h.hleft, h.lrange, hi h.disks, hi h.tapes,
    ⟨rows, hv h1, fun i l hl => (h2 i l hl).imp fun v x => ⟨x.1, x.2.map_ (fun vs => hv) hs⟩, h3, fun i g hg => ⟨(h4 i g hg).1, Nat.lt_of_lt_of_le (h4 i g hg).2 hsz⟩⟩,
    ⟨rws, hv k1, k2, fun i x hx => (k3 i x hx).imp fun v y => ⟨y.1, hs _ _ y.2⟩⟩⟩
theorem RefAt.monoS (h : RefAt S w G r p) (hS : ∀ g, g < w.heap.size → S g → S' g) : RefAt S' w G r p :=
  h.map_ (fun x => x) (fun x => x.mono hS) (fun b v x => x.monoS hS) (fun x => x) (Nat.le_refl _)
/-- Blocks turned that are neither its own nor its bytes'. -/
theorem RefAt.beside (h : RefAt S w G r p) (hm : Mods w.heap.size F w w') (hG : ∀ g, G g → ¬ F g) (hS : ∀ g, S g → ¬ F g) : RefAt S w' G r p := by
  have hr : G r := by obtain ⟨_, _, _, _, _, h⟩ := h; exact h.own
  refine h.map_ (fun x => x.mods hm fun g hg hg' => ⟨hg, hG g hg'⟩) (fun x => x.mods hm fun g hg hg' => ⟨hg, hS g hg'⟩) (fun b v x => x.keepS fun g o hs hh => (hm.keep g (lt_heap hh) (hS g hs)).trans hh) (fun x => x.mods hm x.lt (hG r hr)) hm.size
end
/-- The law's four; the blocks of X are the law's own, no byte of the reference's lies there. -/
structure Four (B : Nat) (X : Nat → Prop) (w : World) (F G F' G' : Nat → Prop) (a r : Nat) (p pr : PM) (n : Nat) (a' r' : Nat) (p' : PM) (n' : Nat) : Prop where
  s1 : St B w F a p n
  s2 : St B w F' a' p' n'
  r1 : RefAt (fun g => ¬ (F g ∨ F' g ∨ X g)) w G r pr
  r2 : RefAt (fun g => ¬ (F g ∨ F' g ∨ X g)) w G' r' p'
  ok : pr.Ok ∧ pr.steps ≤ n ∧ pr.waits.length ≤ n
  dF : ∀ g, F g → ¬ F' g
  dG : ∀ g, G g → ¬ G' g
  x1 : ∀ g, G g → ¬ (F g ∨ F' g) ∧ B ≤ g ∧ g < w.heap.size
  x2 : ∀ g, G' g → ¬ (F g ∨ F' g) ∧ B ≤ g ∧ g < w.heap.size
  dX : ∀ g, X g → g < w.heap.size
section
variable {S X X' : Nat → Prop} {B : Nat} {w w' : World} {F G F' G' : Nat → Prop} {a r : Nat} {p pr q : PM} {n : Nat} {a' r' : Nat} {p' : PM} {n' : Nat}
theorem Four.hS (h : Four B X w F G F' G' a r p pr n a' r' p' n') : ∀ g, w.heap.size ≤ g → ¬ (F g ∨ F' g ∨ X g) := fun g hg hf => by
  rcases hf with hf | hf | hf
  · have := (h.s1.lt g hf).2; omega
  · have := (h.s2.lt g hf).2; omega
  · have := h.dX g hf; omega
theorem Four.low (h : Four B X w F G F' G' a r p pr n a' r' p' n') (hn : n ≤ 1000000000) : pr.Low := ⟨by have := h.ok.2.1; omega, by have := h.ok.2.2; omega⟩
/-- Something new came; some of it may be the law's own. -/
theorem Four.below (h : Four B X w F G F' G' a r p pr n a' r' p' n') (hb : Below w.heap.size w w') (hX : ∀ g, X' g → X g ∨ w.heap.size ≤ g ∧ g < w'.heap.size) : Four B X' w' F G F' G' a r p pr n a' r' p' n' := by
  have hS : ∀ g, g < w.heap.size → ¬ (F g ∨ F' g ∨ X g) → ¬ (F g ∨ F' g ∨ X' g) := fun g hg hn hf => by
    rcases hf with hf | hf | hf
    · exact hn (.inl hf)
    · exact hn (.inr (.inl hf))
    · rcases hX g hf with hf | hf
      · exact hn (.inr (.inr hf))
      · omega
  exact ⟨h.s1.below hb, h.s2.below hb, (h.r1.monoS hS).below hb, (h.r2.monoS hS).below hb, h.ok, h.dF, h.dG, fun g hg => ⟨(h.x1 g hg).1, (h.x1 g hg).2.1, Nat.lt_of_lt_of_le (h.x1 g hg).2.2 hb.size⟩, fun g hg => ⟨(h.x2 g hg).1, (h.x2 g hg).2.1, Nat.lt_of_lt_of_le (h.x2 g hg).2.2 hb.size⟩, fun g hg => by
    rcases hX g hg with hf | hf
    · exact Nat.lt_of_lt_of_le (h.dX g hf) hb.size
    · exact hf.2⟩
/-- A store into the law's own. -/
theorem Four.store (h : Four B X w F G F' G' a r p pr n a' r' p' n') {Y : Nat → Prop} (hm : Mods w.heap.size Y w w') (hY : ∀ g, Y g → X g ∧ ¬ F g ∧ ¬ F' g ∧ ¬ G g ∧ ¬ G' g) : Four B X w' F G F' G' a r p pr n a' r' p' n' :=
  ⟨(h.s1.beside hm fun g hy hf => (hY g hy).2.1 hf).1, (h.s2.beside hm fun g hy hf => (hY g hy).2.2.1 hf).1, h.r1.beside hm (fun g hg hy => (hY g hy).2.2.2.1 hg) (fun g hg hy => hg (.inr (.inr (hY g hy).1))), h.r2.beside hm (fun g hg hy => (hY g hy).2.2.2.2 hg) (fun g hg hy => hg (.inr (.inr (hY g hy).1))), h.ok, h.dF, h.dG, fun g hg => ⟨(h.x1 g hg).1, (h.x1 g hg).2.1, Nat.lt_of_lt_of_le (h.x1 g hg).2.2 hm.size⟩, fun g hg => ⟨(h.x2 g hg).1, (h.x2 g hg).2.1, Nat.lt_of_lt_of_le (h.x2 g hg).2.2 hm.size⟩, fun g hg => Nat.lt_of_lt_of_le (h.dX g hg) hm.size⟩
/-- The first plant did something. -/
theorem Four.plant (h : Four B X w F G F' G' a r p pr n a' r' p' n') (hs : St B w' (Grow F w w') a q (n + 1)) (hm : Mods w.heap.size F w w') : Four B X w' (Grow F w w') G F' G' a r q pr (n + 1) a' r' p' n' := by
  have hS : ∀ g, g < w.heap.size → ¬ (F g ∨ F' g ∨ X g) → ¬ (Grow F w w' g ∨ F' g ∨ X g) := fun g hg hn hf => by
    rcases hf with (hf | hf) | hf | hf
    · exact hn (.inl hf)
    · omega
    · exact hn (.inr (.inl hf))
    · exact hn (.inr (.inr hf))
  have hsz := hm.size
  obtain ⟨h1, h2⟩ := h.s2.beside hm h.dF
  have hx : ∀ g, ¬ (F g ∨ F' g) ∧ B ≤ g ∧ g < w.heap.size → ¬ (Grow F w w' g ∨ F' g) ∧ B ≤ g ∧ g < w'.heap.size := fun g h => ⟨fun hf => by
    rcases hf with (hf | hf) | hf
    · exact h.1 (.inl hf)
    · have := h.2.2; omega
    · exact h.1 (.inr hf), h.2.1, Nat.lt_of_lt_of_le h.2.2 hsz⟩
  refine ⟨hs, h1, ?_, ?_, ⟨h.ok.1, by have := h.ok.2.1; omega, by have := h.ok.2.2; omega⟩, h2, h.dG, fun g hg => hx g (h.x1 g hg), fun g hg => hx g (h.x2 g hg), fun g hg => Nat.lt_of_lt_of_le (h.dX g hg) hsz⟩
  · exact (h.r1.monoS hS).beside hm (fun g hg hf => (h.x1 g hg).1 (.inl hf)) (fun g hg hf => hg (.inl (.inl hf)))
  · exact (h.r2.monoS hS).beside hm (fun g hg hf => (h.x2 g hg).1 (.inl hf)) (fun g hg hf => hg (.inl (.inl hf)))
/-- The first of the reference's did something. -/
theorem Four.refr (h : Four B X w F G F' G' a r p pr n a' r' p' n') (hg : RGone (fun g => ¬ (F g ∨ F' g ∨ X g)) G w r q w') (hq : q.Ok ∧ q.steps ≤ n ∧ q.waits.length ≤ n) : Four B X w' F (Grow G w w') F' G' a r p q n a' r' p' n' := by
  have hsz := hg.2.mods.size
  refine ⟨(h.s1.beside hg.2.mods fun g hG hF => (h.x1 g hG).1 (.inl hF)).1, (h.s2.beside hg.2.mods fun g hG hF => (h.x1 g hG).1 (.inr hF)).1, hg.1, h.r2.mods hg.2.mods (fun g hlt hG' => ⟨hlt, fun hG => h.dG g hG hG'⟩) hg.2.bytes, hq, h.dF, fun g hg hG' => ?_, fun g hg => ?_, fun g hg => ⟨(h.x2 g hg).1, (h.x2 g hg).2.1, Nat.lt_of_lt_of_le (h.x2 g hg).2.2 hsz⟩, fun g hg => Nat.lt_of_lt_of_le (h.dX g hg) hsz⟩
  · rcases hg with hg | hg
    · exact h.dG g hg hG'
    · have := (h.x2 g hG').2.2
      omega
  · rcases hg with hg | hg
    · exact ⟨(h.x1 g hg).1, (h.x1 g hg).2.1, Nat.lt_of_lt_of_le (h.x1 g hg).2.2 hsz⟩
    · refine ⟨fun hf => h.hS g hg.1 (hf.imp id .inl), ?_, hg.2⟩
      have hr := h.r1.lt
      have hr1 : G r := by obtain ⟨_, _, _, _, _, hb⟩ := h.r1; exact hb.own
      have := (h.x1 r hr1).2.1
      omega
theorem Four.swap (h : Four B X w F G F' G' a r p p n a' r' p' n') (hn : p'.Ok ∧ p'.steps ≤ n' ∧ p'.waits.length ≤ n') : Four B X w F' G' F G a' r' p' p' n' a r p n :=
  have hS : ∀ g, ¬ (F g ∨ F' g ∨ X g) → ¬ (F' g ∨ F g ∨ X g) := fun g hg hf => by
    rcases hf with hf | hf | hf
    · exact hg (.inr (.inl hf))
    · exact hg (.inl hf)
    · exact hg (.inr (.inr hf))
  ⟨h.s2, h.s1, h.r2.monoS fun g _ hg => hS g hg, h.r1.monoS fun g _ hg => hS g hg, hn, fun g hg hf => h.dF g hf hg, fun g hg hf => h.dG g hf hg, fun g hg => ⟨fun hf => (h.x2 g hg).1 hf.symm, (h.x2 g hg).2⟩, fun g hg => ⟨fun hf => (h.x1 g hg).1 hf.symm, (h.x1 g hg).2⟩, h.dX⟩
/-- From a plant and a reference's plant alike, and a clone of each. -/
theorem Four.clones {wx wy : World} {b s : Nat} (hsx : St B w F a p n) (hry : RefAt S w G r p) (hSF : ∀ g, S g → ¬ F g ∧ ¬ X g) (hG : ∀ g, G g → ¬ F g ∧ B ≤ g ∧ g < w.heap.size) (hB : B ≤ w.heap.size) (hX : ∀ g, X g → g < w.heap.size)
    (h1 : St B wx F a p n) (h2 : St B wx (New w wx) b p n) (hb1 : Below w.heap.size w wx) (hb2 : Below wx.heap.size wx wy)
    (hy2 : RefAt (fun g => ¬ (New w wx g ∨ F g ∨ X g)) wy (New wx wy) s p) : Four B X wy (New w wx) (New wx wy) F G b s p p n a r p n := by
  have hsz1 := hb1.size
  have hsz2 := hb2.size
  have hS : ∀ g, g < w.heap.size → S g → ¬ (New w wx g ∨ F g ∨ X g) := fun g hg hs hf => by
    rcases hf with hf | hf | hf
    · have := hf.1; omega
    · exact (hSF g hs).1 hf
    · exact (hSF g hs).2 hf
  refine ⟨h2.below hb2, h1.below hb2, hy2, ((hry.monoS hS).below hb1).below hb2, ⟨hsx.ok, hsx.steps, hsx.waits⟩, fun g hg hf => ?_, fun g hg hG' => ?_, fun g hg => ⟨fun hf => ?_, by have := hg.1; omega, hg.2⟩, fun g hg => ⟨fun hf => ?_, (hG g hg).2.1, by have := (hG g hg).2.2; omega⟩, fun g hg => by have := hX g hg; omega⟩
  · have h3 := (hsx.lt g hf).2
    have h4 := hg.1
    omega
  · have h3 := (hG g hG').2.2
    have h4 := hg.1
    omega
  · rcases hf with hf | hf
    · have h3 := hf.2
      have h4 := hg.1
      omega
    · have h3 := (h1.lt g hf).2
      have h4 := hg.1
      omega
  · rcases hf with hf | hf
    · have h3 := (hG g hg).2.2
      have h4 := hf.1
      omega
    · exact (hG g hg).1 hf
end
/-- Both are asked the same. -/
theorem alike_any {B : Nat} {w : World} {S F G : Nat → Prop} {a r : Nat} {p : PM} {n : Nat} (hx : St B w F a p n) (hy : RefAt S w G r p) (hn : n ≤ 1000000000) (i k : Int) :
    Calls Try.prog 53 #[.pointer (some ⟨a, 0, none⟩), .pointer (some ⟨r, 0, none⟩), .int .i64 i, .int .i64 k] w fun e w' => e = .returned (.bool true) ∧ Below w.heap.size w w' := by
  have HX := Lib.hid hx
  obtain ⟨left, D, T, V, W, hyb⟩ := hy
  have HY := Lib.hid hyb
  have HOK := Lib.hid hx.ok
  have hwl : p.waits.length ≤ 1000000000 := by have := hx.waits; omega
  clear hx hyb
  go_enter Try.func53, Try.ntmps53
  go_wp2_with fail
  refine (HX.out.read hn i k).mono ?_
  rintro e w1 ⟨A1, m1, c1, rfl, hl1, hh1, hb1⟩
  have HB1 := Lib.hid hb1
  have HH1 := Lib.hid hh1.1
  have HL1 := Lib.hid hl1
  have HX1 := Lib.hid (HX.out.below hb1)
  have HY1 := Lib.hid (HY.out.below hb1)
  clear hb1 hh1 hl1
  go_wp2_with fail
  refine (read_any HY1.out HOK.out hwl i k).mono ?_
  rintro e w2 ⟨A2, m2, c2, rfl, hl2, hh2, _, hb2⟩
  have HB2 : Hid (Below w.heap.size w w2) := Lib.hid (HB1.out.trans (hb2.mono HB1.out.size))
  have HH2 := Lib.hid hh2
  have HH12 := Lib.hid (HH1.out.below hb2)
  have HL2 := Lib.hid hl2
  have HX2 := Lib.hid (HX1.out.below hb2)
  have HY2 := Lib.hid (HY1.out.below hb2)
  clear hb2 hh2 hl2
  go_wp2_with fail
  refine (HX2.out.len hn i).mono ?_
  rintro e w3 ⟨rfl, hb3⟩
  have HB3 : Hid (Below w.heap.size w w3) := Lib.hid (HB2.out.trans (hb3.mono HB2.out.size))
  have HX3 := Lib.hid (HX2.out.below hb3)
  have HY3 := Lib.hid (HY2.out.below hb3)
  have HQ1 := Lib.hid (HH12.out.below hb3)
  have HQ2 := Lib.hid (HH2.out.below hb3)
  clear hb3
  go_wp2_with fail
  refine (len_any HY3.out HOK.out hwl i).mono ?_
  rintro e _ ⟨rfl, q, rfl⟩
  have hbq : Below w3.heap.size w3 (w3.drewN q) := below_drewN (Below.refl _ _) q
  have HB4 : Hid (Below w.heap.size w (w3.drewN q)) := Lib.hid (HB3.out.trans (hbq.mono HB3.out.size))
  have HX4 := Lib.hid (HX3.out.below hbq)
  have HY4 := Lib.hid (HY3.out.below hbq)
  have HQ3 := Lib.hid (HQ1.out.below hbq)
  have HQ4 := Lib.hid (HQ2.out.below hbq)
  clear hbq HX3 HY3 HQ1 HQ2 HB3
  generalize w3.drewN q = wq at *
  have hsm := same_any A1 A2 _ _ m1 m2 c1 c2 wq HL1.out.symm HL2.out.symm HQ3.out HQ4.out
  rw [decide_eq_true rfl] at hsm
  have HSM := Lib.hid hsm
  have HXZ := fun z : Nat => HX4.out.below (below_drewN (Below.refl _ wq) z)
  have HYZ := fun z : Nat => HY4.out.below (below_drewN (Below.refl _ wq) z)
  have HON := Lib.hid (fun z : Nat => (Pl.on_any (HXZ z).at_).mono fun e w' x => (⟨x.1, x.2.symm⟩ : _ ∧ _))
  have HRN := Lib.hid (fun z : Nat => (Ref.on_any (HYZ z)).mono fun e w' x => (⟨x.1, x.2.symm⟩ : _ ∧ _))
  have HSN := Lib.hid (fun z : Nat => (Pl.steps_any (HXZ z).at_).mono fun e w' x => (⟨x.1, x.2.symm⟩ : _ ∧ _))
  have HNN := Lib.hid (fun z : Nat => (Pl.now_any (HXZ z).at_).mono fun e w' x => (⟨x.1, x.2.symm⟩ : _ ∧ _))
  have h7 := HY4.out.c7
  have h8 := HY4.out.c8
  clear hsm HXZ HYZ
  go_wp2_with fail
  refine HSM.out.mono ?_
  rintro e _ ⟨rfl, rfl⟩
  go_wp2_with fail
  go_quiet (first
    | (go_at_call 40; exact Calls.quiet_of_same (HON.out _))
    | (go_at_call 81; exact Calls.quiet_of_same (HRN.out _))
    | (go_at_call 39; exact Calls.quiet_of_same (HSN.out _))
    | (go_at_call 82; exact Calls.quiet_of_same (HNN.out _)))
  go_wp2_with fail
  go_ret
  exact ⟨rfl, below_drewN HB4.out _⟩
end Go.Proofs.Ytomncfiklkhfjaa.Ref
/- A round of 'PlantPlays': the four, the call's block, the row's. -/
namespace Go.Proofs.Ytomncfiklkhfjaa.Ref
open Go Go.RowKit Mem Pl
theorem rot_ok {p : PM} (h : p.Ok) (i k at_ : Int) (x : UInt8) : (p.rot i k at_ x).1.Ok := by
  unfold PM.rot
  cases hn : p.num i with
  | none => exact h
  | some j =>
    dsimp only
    cases hd : p.devs[j]? with
    | none => exact h
    | some d =>
      dsimp only
      split
      · rename_i hc
        have hj : j < p.devs.length := (List.getElem?_eq_some_iff.1 hd).1
        have back : ∀ (q : Nat) (e : Dev), (p.devs.set j { d with has := d.has.set k.toNat ((d.at_ k.toNat).set at_.toNat (((d.at_ k.toNat).getD at_.toNat 0) ^^^ x)) })[q]? = some e → (q = j ∧ e = { d with has := d.has.set k.toNat ((d.at_ k.toNat).set at_.toNat (((d.at_ k.toNat).getD at_.toNat 0) ^^^ x)) }) ∨ (q ≠ j ∧ p.devs[q]? = some e) := fun q e he => by
          by_cases hq : q = j
          · subst hq
            rw [List.getElem?_set_self hj] at he
            injection he with he
            exact .inl ⟨rfl, he.symm⟩
          · rw [List.getElem?_set_ne (fun e => hq e.symm)] at he
            exact .inr ⟨hq, he⟩
        have hl : ∀ z : Dev, (p.devs.set j z).length = p.devs.length := fun _ => List.length_set
        constructor
        · show 1 ≤ (p.devs.set _ _).length; rw [hl]; exact h.n1
        · show (p.devs.set _ _).length ≤ 12; rw [hl]; exact h.n12
        · show (p.devs.set _ _).length = _; rw [hl]; exact h.shape
        · intro q e he
          rcases back q e he with ⟨rfl, rfl⟩ | ⟨_, he⟩
          · exact h.tape _ d hd
          · exact h.tape q e he
        · intro q e he
          rcases back q e he with ⟨rfl, rfl⟩ | ⟨_, he⟩
          · exact h.most _ d hd
          · exact h.most q e he
        · intro q e he ht
          rcases back q e he with ⟨rfl, rfl⟩ | ⟨_, he⟩
          · show (d.has.set _ _).length = _
            rw [List.length_set]; exact h.disk _ d hd ht
          · exact h.disk q e he ht
        · intro q e he ht
          rcases back q e he with ⟨rfl, rfl⟩ | ⟨_, he⟩
          · show (d.has.set _ _).length + _ ≤ _
            rw [List.length_set]; exact h.room _ d hd ht
          · exact h.room q e he ht
        · intro q e b he hb
          rcases back q e he with ⟨rfl, rfl⟩ | ⟨_, he⟩
          · rcases List.mem_or_eq_of_mem_set hb with hb | hb
            · exact h.sec _ d b hd hb
            · rw [hb, List.length_set]; exact h.at_len hd _
          · exact h.sec q e b he hb
        · intro y hy; show _ < (p.devs.set _ _).length; rw [hl]; exact h.wdev y hy
        · exact h.wlen
        · intro y hy e he
          rcases back _ e he with ⟨hq, rfl⟩ | ⟨_, he⟩
          · exact h.wplace y hy d (hq ▸ hd)
          · exact h.wplace y hy e he
        · intro q e he ht
          rcases back q e he with ⟨rfl, rfl⟩ | ⟨_, he⟩
          · show _ = List.range' (d.has.set _ _).length _
            rw [List.length_set]; exact h.wtape _ d hd ht
          · exact h.wtape q e he ht
        · exact h.now
        · exact h.fuse
      · exact h
theorem rot_low (p : PM) (i k at_ : Int) (x : UInt8) : (p.rot i k at_ x).1.steps = p.steps ∧ (p.rot i k at_ x).1.waits = p.waits := by
  unfold PM.rot
  cases p.num i with
  | none => exact ⟨rfl, rfl⟩
  | some j =>
    dsimp only
    cases p.devs[j]? with
    | none => exact ⟨rfl, rfl⟩
    | some d => dsimp only; split <;> exact ⟨rfl, rfl⟩
theorem tick_ok {p : PM} (h : p.Ok) (n : Int) : (p.tick n).Ok := by
  unfold PM.tick
  split
  · refine h.same rfl rfl rfl rfl ?_ h.fuse
    have := h.now
    show p.now + min n.toNat (1099511627776 - p.now) ≤ _
    omega
  · exact h
theorem tick_low (p : PM) (n : Int) : (p.tick n).steps = p.steps ∧ (p.tick n).waits = p.waits := by
  unfold PM.tick
  split <;> exact ⟨rfl, rfl⟩
/-- A round: the four, the call's block o, the row's block g. -/
structure Rnd (W w : World) (F G F' G' : Nat → Prop) (a r : Nat) (p pr : PM) (n : Nat) (a' r' : Nat) (p' : PM) (n' : Nat) (o : Nat) (cs : Array Value) (g : Nat) (b : List UInt8) : Prop where
  four : Four W.heap.size (fun j => j = g) w F G F' G' a r p pr n a' r' p' n'
  bel : Below W.heap.size W w
  op : Blk w o 70 cs
  row : Blk w g 5 (cellsOf b)
  fo : ¬ F o ∧ ¬ F' o ∧ ¬ G o ∧ ¬ G' o
  fg : ¬ F g ∧ ¬ F' g ∧ ¬ G g ∧ ¬ G' g
  og : o ≠ g
  wg : W.heap.size ≤ g
def Rd (W w : World) (a r : Nat) (p pr : PM) (n : Nat) (a' r' : Nat) (p' : PM) (n' : Nat) (o : Nat) (cs : Array Value) (g : Nat) (b : List UInt8) : Prop :=
  ∃ F G F' G', Rnd W w F G F' G' a r p pr n a' r' p' n' o cs g b
/-- At the loop's head. -/
def Hd (W w : World) (a r : Nat) (p : PM) (n : Nat) (a' r' : Nat) (p' : PM) (n' : Nat) : Prop :=
  ∃ F G F' G', Four W.heap.size (fun _ => False) w F G F' G' a r p p n a' r' p' n' ∧ Below W.heap.size W w
section
variable {W w w' : World} {F G F' G' : Nat → Prop} {a r : Nat} {p pr q : PM} {n : Nat} {a' r' : Nat} {p' : PM} {n' : Nat} {o : Nat} {cs : Array Value} {g : Nat} {b : List UInt8}
theorem Rnd.below (h : Rnd W w F G F' G' a r p pr n a' r' p' n' o cs g b) (hb : Below w.heap.size w w') : Rnd W w' F G F' G' a r p pr n a' r' p' n' o cs g b :=
  ⟨h.four.below hb fun _ h => .inl h, h.bel.trans (hb.mono h.bel.size), h.op.below_ hb, h.row.below_ hb, h.fo, h.fg, h.og, h.wg⟩
theorem Rnd.plant (h : Rnd W w F G F' G' a r p pr n a' r' p' n' o cs g b) (hs : St W.heap.size w' (Grow F w w') a q (n + 1)) (hm : Mods w.heap.size F w w') : Rnd W w' (Grow F w w') G F' G' a r q pr (n + 1) a' r' p' n' o cs g b := by
  have h1 := h.op.lt
  have h2 := h.row.lt
  refine ⟨h.four.plant hs hm, St.bel h.four.s1 h.bel h.bel.size hm, h.op.mods hm h1 h.fo.1, h.row.mods hm h2 h.fg.1, ⟨fun hf => ?_, h.fo.2⟩, ⟨fun hf => ?_, h.fg.2⟩, h.og, h.wg⟩
  · rcases hf with hf | hf
    · exact h.fo.1 hf
    · omega
  · rcases hf with hf | hf
    · exact h.fg.1 hf
    · omega
theorem Rnd.refr (h : Rnd W w F G F' G' a r p pr n a' r' p' n' o cs g b) (hg : RGone (fun j => ¬ (F j ∨ F' j ∨ j = g)) G w r p w') : Rnd W w' F (Grow G w w') F' G' a r p p n a' r' p' n' o cs g b := by
  have h1 := h.op.lt
  have h2 := h.row.lt
  refine ⟨h.four.refr hg ⟨h.four.s1.ok, h.four.s1.steps, h.four.s1.waits⟩, h.bel.trans ((hg.2.mods.mono h.bel.size fun _ _ hf => hf).below fun k hk hf => by have := (h.four.x1 k hf).2.1; omega), h.op.mods hg.2.mods h1 h.fo.2.2.1, h.row.mods hg.2.mods h2 h.fg.2.2.1, ⟨h.fo.1, h.fo.2.1, fun hf => ?_, h.fo.2.2.2⟩, ⟨h.fg.1, h.fg.2.1, fun hf => ?_, h.fg.2.2.2⟩, h.og, h.wg⟩
  · rcases hf with hf | hf
    · exact h.fo.2.2.1 hf
    · omega
  · rcases hf with hf | hf
    · exact h.fg.2.2.1 hf
    · omega
theorem Rnd.setRow (h : Rnd W w F G F' G' a r p pr n a' r' p' n' o cs g b) (k : Nat) (x : UInt8) : Rnd W (w.setCell ⟨g, k, none⟩ (.int .u8 (V8 x))) F G F' G' a r p pr n a' r' p' n' o cs g (b.set k x) := by
  have hm : Mods w.heap.size (fun j => j = g) w (w.setCell ⟨g, k, none⟩ (.int .u8 (V8 x))) := (Mods.refl w.heap.size (fun j => j = g) w).setCell (p := ⟨g, k, none⟩) (.inl rfl) _
  exact ⟨h.four.store hm fun j hj => by subst hj; exact ⟨rfl, h.fg⟩, h.bel.trans ((hm.mono h.bel.size fun _ _ h => h).below fun j hj he => by have := h.wg; omega), h.op.far (p := ⟨g, k, none⟩) h.og _, h.row.setByte k x, h.fo, h.fg, h.og, h.wg⟩
theorem Rd.below (h : Rd W w a r p pr n a' r' p' n' o cs g b) (hb : Below w.heap.size w w') : Rd W w' a r p pr n a' r' p' n' o cs g b := by
  obtain ⟨F, G, F', G', h⟩ := h
  exact ⟨F, G, F', G', h.below hb⟩
theorem Rd.bel (h : Rd W w a r p pr n a' r' p' n' o cs g b) : Below W.heap.size W w := by
  obtain ⟨F, G, F', G', h⟩ := h
  exact h.bel
theorem Rd.op (h : Rd W w a r p pr n a' r' p' n' o cs g b) : Blk w o 70 cs := by
  obtain ⟨F, G, F', G', h⟩ := h
  exact h.op
theorem Rd.row (h : Rd W w a r p pr n a' r' p' n' o cs g b) : Blk w g 5 (cellsOf b) := by
  obtain ⟨F, G, F', G', h⟩ := h
  exact h.row
theorem Rd.setRow (h : Rd W w a r p pr n a' r' p' n' o cs g b) (k : Nat) (x : UInt8) : Rd W (w.setCell ⟨g, k, none⟩ (.int .u8 (V8 x))) a r p pr n a' r' p' n' o cs g (b.set k x) := by
  obtain ⟨F, G, F', G', h⟩ := h
  exact ⟨F, G, F', G', h.setRow k x⟩
theorem Rd.swap (h : Rd W w a r p p n a' r' p' n' o cs g b) : Rd W w a' r' p' p' n' a r p n o cs g b := by
  obtain ⟨F, G, F', G', h⟩ := h
  exact ⟨F', G', F, G, h.four.swap ⟨h.four.s2.ok, h.four.s2.steps, h.four.s2.waits⟩, h.bel, h.op, h.row, ⟨h.fo.2.1, h.fo.1, h.fo.2.2.2, h.fo.2.2.1⟩, ⟨h.fg.2.1, h.fg.1, h.fg.2.2.2, h.fg.2.2.1⟩, h.og, h.wg⟩
theorem Rd.head (h : Rd W w a r p p n a' r' p' n' o cs g b) : Hd W w a r p n a' r' p' n' := by
  obtain ⟨F, G, F', G', h⟩ := h
  exact ⟨F, G, F', G', h.four.below (Below.refl _ _) fun _ h => h.elim, h.bel⟩
theorem Hd.below (h : Hd W w a r p n a' r' p' n') (hb : Below w.heap.size w w') : Hd W w' a r p n a' r' p' n' := by
  obtain ⟨F, G, F', G', h, hw⟩ := h
  exact ⟨F, G, F', G', h.below hb fun _ h => h.elim, hw.trans (hb.mono hw.size)⟩
theorem Hd.bel (h : Hd W w a r p n a' r' p' n') : Below W.heap.size W w := by
  obtain ⟨F, G, F', G', h, hw⟩ := h
  exact hw
/-- The call and its row are there. -/
theorem Hd.round {w1 : World} (h : Hd W w a r p n a' r' p' n') (hb1 : Below w.heap.size w w1) (ho : Blk w1 o 70 cs) (hwo : w.heap.size ≤ o) (hb2 : Below w1.heap.size w1 w') (hg : Blk w' g 5 (cellsOf b)) (hwg : w1.heap.size ≤ g) : Rd W w' a r p p n a' r' p' n' o cs g b := by
  obtain ⟨F, G, F', G', h, hw⟩ := h
  have hb : Below w.heap.size w w' := hb1.trans (hb2.mono hb1.size)
  have e1 := ho.lt
  have e2 := hg.lt
  have e3 := hb1.size
  have e4 := hw.size
  refine ⟨F, G, F', G', h.below hb fun j hj => .inr ⟨by omega, by omega⟩, hw.trans (hb.mono hw.size), ho.below_ hb2, hg, ?_, ?_, by omega, by omega⟩
  · refine ⟨fun hf => ?_, fun hf => ?_, fun hf => ?_, fun hf => ?_⟩
    · have := (h.s1.lt _ hf).2; omega
    · have := (h.s2.lt _ hf).2; omega
    · have := (h.x1 _ hf).2.2; omega
    · have := (h.x2 _ hf).2.2; omega
  · refine ⟨fun hf => ?_, fun hf => ?_, fun hf => ?_, fun hf => ?_⟩
    · have := (h.s1.lt _ hf).2; omega
    · have := (h.s2.lt _ hf).2; omega
    · have := (h.x1 _ hf).2.2; omega
    · have := (h.x2 _ hf).2.2; omega
/-- What each call does to the round. -/
theorem Rd.write (h : Rd W w a r p pr n a' r' p' n' o cs g b) (hn : n ≤ 1000000000) (i k : Int) (A : Option Addr) (m cap : Nat) (bs : List UInt8) (hb : BAt w A bs) (hl : bs.length = m) :
    Calls Try.prog 36 #[.pointer (some ⟨a, 0, none⟩), .int .i64 i, .int .i64 k, .slice A m cap] w fun e w' => e = .returned (.int .i64 (p.write i k bs).2) ∧ Rd W w' a r (p.write i k bs).1 pr (n + 1) a' r' p' n' o cs g b := by
  obtain ⟨F, G, F', G', h⟩ := h
  exact (h.four.s1.write h.bel.size hn i k A m cap bs hb hl).mono fun e w' ⟨he, hs, hm⟩ => ⟨he, _, _, _, _, h.plant hs hm⟩
theorem Rd.append (h : Rd W w a r p pr n a' r' p' n' o cs g b) (hn : n ≤ 1000000000) (i : Int) (A : Option Addr) (m cap : Nat) (bs : List UInt8) (hb : BAt w A bs) (hl : bs.length = m) :
    Calls Try.prog 30 #[.pointer (some ⟨a, 0, none⟩), .int .i64 i, .slice A m cap] w fun e w' => e = .returned (.tuple #[.int .i64 (p.append i bs).2.1, .int .i64 (p.append i bs).2.2]) ∧ Rd W w' a r (p.append i bs).1 pr (n + 1) a' r' p' n' o cs g b := by
  obtain ⟨F, G, F', G', h⟩ := h
  exact (h.four.s1.append h.bel.size hn i A m cap bs hb hl).mono fun e w' ⟨he, hs, hm⟩ => ⟨he, _, _, _, _, h.plant hs hm⟩
theorem Rd.flush (h : Rd W w a r p pr n a' r' p' n' o cs g b) (hn : n ≤ 1000000000) (i : Int) :
    Calls Try.prog 29 #[.pointer (some ⟨a, 0, none⟩), .int .i64 i] w fun e w' => e = .returned (.int .i64 (p.flush i).2) ∧ Rd W w' a r (p.flush i).1 pr (n + 1) a' r' p' n' o cs g b := by
  obtain ⟨F, G, F', G', h⟩ := h
  exact (h.four.s1.flush h.bel.size hn i).mono fun e w' ⟨he, hs, hm⟩ => ⟨he, _, _, _, _, h.plant hs hm⟩
theorem Rd.setFuse (h : Rd W w a r p pr n a' r' p' n' o cs g b) (i : Int) (hi : i < 9223372036854775808) :
    Calls Try.prog 38 #[.pointer (some ⟨a, 0, none⟩), .int .i64 i] w fun e w' => e = .returned (.tuple #[]) ∧ Rd W w' a r (p.setFuse i) pr (n + 1) a' r' p' n' o cs g b := by
  obtain ⟨F, G, F', G', h⟩ := h
  exact (h.four.s1.setFuse h.bel.size i hi).mono fun e w' ⟨he, hs, hm⟩ => ⟨he, _, _, _, _, h.plant hs hm⟩
theorem Rd.boot (h : Rd W w a r p pr n a' r' p' n' o cs g b) (hn : n ≤ 1000000000) (AK : Option Addr) (nk ck : Nat) (keep : List Int) (hk : IAt w AK keep) (hkl : keep.length = nk) (hkn : keep ≠ [] → ∀ ad, AK = some ad → ad.block < W.heap.size) (hnk : nk ≤ 9223372036854775807) :
    Calls Try.prog 32 #[.pointer (some ⟨a, 0, none⟩), .slice AK nk ck] w fun e w' => e = .returned (.tuple #[]) ∧ Rd W w' a r (p.boot keep) pr (n + 1) a' r' p' n' o cs g b := by
  obtain ⟨F, G, F', G', h⟩ := h
  exact (h.four.s1.boot h.bel.size hn AK nk ck keep hk hkl (fun hne ad hA hF => by
    have h1 := hkn hne ad hA
    have h2 := (h.four.s1.lt _ hF).1
    omega) hnk).mono fun e w' ⟨he, hs, hm⟩ => ⟨he, _, _, _, _, h.plant hs hm⟩
theorem Rd.rot (h : Rd W w a r p pr n a' r' p' n' o cs g b) (i k at_ x : Int) :
    Calls Try.prog 49 #[.pointer (some ⟨a, 0, none⟩), .int .i64 i, .int .i64 k, .int .i64 at_, .int .i64 x] w fun e w' => e = .returned (.bool (p.rot i k at_ (byteOf x)).2) ∧ Rd W w' a r (p.rot i k at_ (byteOf x)).1 pr (n + 1) a' r' p' n' o cs g b := by
  obtain ⟨F, G, F', G', h⟩ := h
  exact (Pl.rot_any h.four.s1.at_ h.four.s1.ok i k at_ x).mono fun e w' ⟨he, hp, hm⟩ => ⟨he, _, _, _, _, h.plant (h.four.s1.next h.bel.size hp hm (rot_ok h.four.s1.ok ..) (by rw [(rot_low ..).1]; omega) (by rw [(rot_low ..).2]; omega)) hm⟩
theorem Rd.tick (h : Rd W w a r p pr n a' r' p' n' o cs g b) (x : Int) (hx : x ≤ 9223372036854775807) :
    Calls Try.prog 51 #[.pointer (some ⟨a, 0, none⟩), .int .i64 x] w fun e w' => e = .returned (.tuple #[]) ∧ Rd W w' a r (p.tick x) pr (n + 1) a' r' p' n' o cs g b := by
  obtain ⟨F, G, F', G', h⟩ := h
  exact (Pl.tick_any h.four.s1.at_ h.four.s1.ok x hx).mono fun e w' ⟨he, hp, hm⟩ => ⟨he, _, _, _, _, h.plant (h.four.s1.next h.bel.size hp hm (tick_ok h.four.s1.ok x) (by rw [(tick_low ..).1]; omega) (by rw [(tick_low ..).2]; omega)) hm⟩
theorem Rd.rwrite {P : PM} (h : Rd W w a r p P n a' r' p' n' o cs g b) (hn : n ≤ 1000000000) (i k : Int) (A : Option Addr) (m cap : Nat) (bs : List UInt8) (hb : BAt w A bs) (hl : bs.length = m) (hp : (P.write i k bs).1 = p) :
    Calls Try.prog 44 #[.pointer (some ⟨r, 0, none⟩), .int .i64 i, .int .i64 k, .slice A m cap] w fun e w' => e = .returned (.int .i64 (P.write i k bs).2) ∧ Rd W w' a r p p n a' r' p' n' o cs g b := by
  obtain ⟨F, G, F', G', h⟩ := h
  subst hp
  obtain ⟨_, _, _, _, _, hr⟩ := h.four.r1
  exact (Ref.write_any hr h.four.ok.1 (h.four.low hn) i k A m cap bs hb hl h.four.hS).mono fun e w' ⟨he, hg⟩ => ⟨he, _, _, _, _, h.refr hg⟩
theorem Rd.rappend {P : PM} (h : Rd W w a r p P n a' r' p' n' o cs g b) (hn : n ≤ 1000000000) (i : Int) (A : Option Addr) (m cap : Nat) (bs : List UInt8) (hb : BAt w A bs) (hl : bs.length = m) (hp : (P.append i bs).1 = p) :
    Calls Try.prog 45 #[.pointer (some ⟨r, 0, none⟩), .int .i64 i, .slice A m cap] w fun e w' => e = .returned (.tuple #[.int .i64 (P.append i bs).2.1, .int .i64 (P.append i bs).2.2]) ∧ Rd W w' a r p p n a' r' p' n' o cs g b := by
  obtain ⟨F, G, F', G', h⟩ := h
  subst hp
  obtain ⟨_, _, _, _, _, hr⟩ := h.four.r1
  exact (Ref.append_any hr h.four.ok.1 (h.four.low hn) i A m cap bs hb hl h.four.hS).mono fun e w' ⟨he, hg⟩ => ⟨he, _, _, _, _, h.refr hg⟩
theorem Rd.rflush {P : PM} (h : Rd W w a r p P n a' r' p' n' o cs g b) (hn : n ≤ 1000000000) (i : Int) (hp : (P.flush i).1 = p) :
    Calls Try.prog 46 #[.pointer (some ⟨r, 0, none⟩), .int .i64 i] w fun e w' => e = .returned (.int .i64 (P.flush i).2) ∧ Rd W w' a r p p n a' r' p' n' o cs g b := by
  obtain ⟨F, G, F', G', h⟩ := h
  subst hp
  obtain ⟨_, _, _, _, _, hr⟩ := h.four.r1
  exact (Ref.flush_any hr h.four.ok.1 (h.four.low hn) i).mono fun e w' ⟨he, hg⟩ => ⟨he, _, _, _, _, h.refr hg⟩
theorem Rd.rfuse {P : PM} (h : Rd W w a r p P n a' r' p' n' o cs g b) (i : Int) (hi : -9223372036854775808 ≤ i ∧ i < 9223372036854775808) (hp : P.setFuse i = p) :
    Calls Try.prog 47 #[.pointer (some ⟨r, 0, none⟩), .int .i64 i] w fun e w' => e = .returned (.tuple #[]) ∧ Rd W w' a r p p n a' r' p' n' o cs g b := by
  obtain ⟨F, G, F', G', h⟩ := h
  subst hp
  obtain ⟨_, _, _, _, _, hr⟩ := h.four.r1
  exact (Ref.fuse_any hr i hi).mono fun e w' ⟨he, hg⟩ => ⟨he, _, _, _, _, h.refr hg⟩
theorem Rd.rboot {P : PM} (h : Rd W w a r p P n a' r' p' n' o cs g b) (hn : n ≤ 1000000000) (AK : Option Addr) (nk ck : Nat) (keep : List Int) (hk : IAt w AK keep) (hkl : keep.length = nk) (hkn : keep ≠ [] → ∀ ad, AK = some ad → ad.block < W.heap.size) (hnk : nk ≤ 9223372036854775807) (hp : P.boot keep = p) :
    Calls Try.prog 48 #[.pointer (some ⟨r, 0, none⟩), .slice AK nk ck] w fun e w' => e = .returned (.tuple #[]) ∧ Rd W w' a r p p n a' r' p' n' o cs g b := by
  obtain ⟨F, G, F', G', h⟩ := h
  subst hp
  obtain ⟨_, _, _, _, _, hr⟩ := h.four.r1
  exact (Ref.boot_any hr h.four.ok.1 (h.four.low hn) AK nk ck keep hk hkl (fun hne ad hA hF => by
    have h1 := hkn hne ad hA
    have h2 := (h.four.x1 _ hF).2.1
    omega) hnk h.four.hS).mono fun e w' ⟨he, hg⟩ => ⟨he, _, _, _, _, h.refr hg⟩
theorem Rd.rrot {P : PM} (h : Rd W w a r p P n a' r' p' n' o cs g b) (i k at_ x : Int) (hp : (P.rot i k at_ (byteOf x)).1 = p) :
    Calls Try.prog 50 #[.pointer (some ⟨r, 0, none⟩), .int .i64 i, .int .i64 k, .int .i64 at_, .int .i64 x] w fun e w' => e = .returned (.bool (P.rot i k at_ (byteOf x)).2) ∧ Rd W w' a r p p n a' r' p' n' o cs g b := by
  obtain ⟨F, G, F', G', h⟩ := h
  subst hp
  obtain ⟨_, _, _, _, _, hr⟩ := h.four.r1
  exact (Ref.rot_any hr h.four.ok.1 i k at_ x h.four.hS).mono fun e w' ⟨he, hg⟩ => ⟨he, _, _, _, _, h.refr hg⟩
theorem Rd.rtick {P : PM} (h : Rd W w a r p P n a' r' p' n' o cs g b) (x : Int) (hx : x ≤ 9223372036854775807) (hp : P.tick x = p) :
    Calls Try.prog 52 #[.pointer (some ⟨r, 0, none⟩), .int .i64 x] w fun e w' => e = .returned (.tuple #[]) ∧ Rd W w' a r p p n a' r' p' n' o cs g b := by
  obtain ⟨F, G, F', G', h⟩ := h
  subst hp
  obtain ⟨_, _, _, _, _, hr⟩ := h.four.r1
  exact (Ref.tick_any hr h.four.ok.1 x hx).mono fun e w' ⟨he, hg⟩ => ⟨he, _, _, _, _, h.refr hg⟩
theorem Rd.read (h : Rd W w a r p pr n a' r' p' n' o cs g b) (hn : n ≤ 1000000000) (i k : Int) :
    Calls Try.prog 34 #[.pointer (some ⟨a, 0, none⟩), .int .i64 i, .int .i64 k] w (RetBy w (p.read i k)) := by
  obtain ⟨F, G, F', G', h⟩ := h
  exact Pl.read_any h.four.s1.at_ h.four.s1.ok (h.four.s1.low hn) i k
theorem Hd.alike (h : Hd W w a r p n a' r' p' n') (hn : n ≤ 1000000000) (i k : Int) :
    Calls Try.prog 53 #[.pointer (some ⟨a, 0, none⟩), .pointer (some ⟨r, 0, none⟩), .int .i64 i, .int .i64 k] w fun e w' => e = .returned (.bool true) ∧ Below w.heap.size w w' := by
  obtain ⟨F, G, F', G', h, _⟩ := h
  exact alike_any h.s1 h.r1 hn i k
theorem Rd.alike (h : Rd W w a r p p n a' r' p' n' o cs g b) (hn : n ≤ 1000000000) (i k : Int) :
    Calls Try.prog 53 #[.pointer (some ⟨a, 0, none⟩), .pointer (some ⟨r, 0, none⟩), .int .i64 i, .int .i64 k] w fun e w' => e = .returned (.bool true) ∧ Below w.heap.size w w' := h.head.alike hn i k
theorem Hd.swap (h : Hd W w a r p n a' r' p' n') : Hd W w a' r' p' n' a r p n := by
  obtain ⟨F, G, F', G', h, hw⟩ := h
  exact ⟨F', G', F, G, h.swap ⟨h.s2.ok, h.s2.steps, h.s2.waits⟩, hw⟩
/-- Between the two clones of a round. -/
def Cl1 (W wx : World) (a r : Nat) (p : PM) (n o : Nat) (cs : Array Value) (g : Nat) (b : List UInt8) (c : Nat) : Prop :=
  ∃ (w : World) (F G F' G' : Nat → Prop) (a' r' : Nat) (p' : PM) (n' : Nat), Rnd W w F G F' G' a r p p n a' r' p' n' o cs g b ∧ St W.heap.size wx F a p n ∧ St W.heap.size wx (New w wx) c p n ∧ Below w.heap.size w wx
theorem Rd.copy (h : Rd W w a r p p n a' r' p' n' o cs g b) (hn : n ≤ 1000000000) :
    Calls Try.prog 37 #[.pointer (some ⟨a, 0, none⟩)] w fun e w' => ∃ c, e = .returned (.pointer (some ⟨c, 0, none⟩)) ∧ Cl1 W w' a r p n o cs g b c := by
  obtain ⟨F, G, F', G', h⟩ := h
  exact (h.four.s1.copy h.bel.size hn).mono fun e w' ⟨c, he, h1, h2, _, hb⟩ => ⟨c, he, w, F, G, F', G', a', r', p', n', h, h1, h2, hb⟩
theorem Cl1.copy {c : Nat} (h : Cl1 W w a r p n o cs g b c) (hn : n ≤ 1000000000) :
    Calls Try.prog 41 #[.pointer (some ⟨r, 0, none⟩)] w fun e w' => ∃ s, e = .returned (.pointer (some ⟨s, 0, none⟩)) ∧ Rd W w' c s p p n a r p n o cs g b := by
  obtain ⟨w0, F, G, F', G', a', r', p', n', h, h1, h2, hb⟩ := h
  have hS : ∀ j, j < w0.heap.size → ¬ (F j ∨ F' j ∨ j = g) → ¬ (New w0 w j ∨ F j ∨ j = g) := fun j hj hn hf => by
    rcases hf with hf | hf | hf
    · have := hf.1; omega
    · exact hn (.inl hf)
    · exact hn (.inr (.inr hf))
  have hr := (h.four.r1.monoS hS).below hb
  obtain ⟨_, _, _, _, _, hr⟩ := hr
  refine (Ref.clone_any hr h.four.ok.1 (h.four.low hn)).mono fun e w' ⟨s, he, hs, hb2⟩ => ⟨s, he, ?_⟩
  have e1 := h.op.lt
  have e2 := h.row.lt
  have e3 := hb.size
  refine ⟨New w0 w, New w w', F, G, Four.clones h.four.s1 h.four.r1 (fun j hj => ⟨fun hf => hj (.inl hf), fun hf => hj (.inr (.inr hf))⟩) (fun j hj => ⟨fun hf => (h.four.x1 j hj).1 (.inl hf), (h.four.x1 j hj).2⟩) h.bel.size h.four.dX h1 h2 hb hb2 hs, h.bel.trans ((hb.trans (hb2.mono hb.size)).mono h.bel.size), (h.op.below_ hb).below_ hb2, (h.row.below_ hb).below_ hb2, ⟨fun hf => ?_, h.fo.1, fun hf => ?_, h.fo.2.2.1⟩, ⟨fun hf => ?_, h.fg.1, fun hf => ?_, h.fg.2.2.1⟩, h.og, h.wg⟩
  · have := hf.1; omega
  · have := hf.1; omega
  · have := hf.1; omega
  · have := hf.1; omega
/-- Ahead of the loop: a plant and the reference's. -/
def Beg (W w : World) (a r : Nat) (p : PM) (n : Nat) : Prop :=
  ∃ F G, St W.heap.size w F a p n ∧ RefAt (fun j => ¬ F j) w G r p ∧ (∀ j, G j → ¬ F j ∧ W.heap.size ≤ j ∧ j < w.heap.size) ∧ Below W.heap.size W w
def Cl0 (W wx : World) (a r : Nat) (p : PM) (n c : Nat) : Prop :=
  ∃ (w : World) (F G : Nat → Prop), St W.heap.size w F a p n ∧ RefAt (fun j => ¬ F j) w G r p ∧ (∀ j, G j → ¬ F j ∧ W.heap.size ≤ j ∧ j < w.heap.size) ∧ Below W.heap.size W w ∧ St W.heap.size wx F a p n ∧ St W.heap.size wx (New w wx) c p n ∧ Below w.heap.size w wx
theorem Beg.below (h : Beg W w a r p n) (hb : Below w.heap.size w w') : Beg W w' a r p n := by
  obtain ⟨F, G, h1, h2, h3, h4⟩ := h
  exact ⟨F, G, h1.below hb, h2.below hb, fun j hj => ⟨(h3 j hj).1, (h3 j hj).2.1, Nat.lt_of_lt_of_le (h3 j hj).2.2 hb.size⟩, h4.trans (hb.mono h4.size)⟩
theorem Beg.copy (h : Beg W w a r p n) (hn : n ≤ 1000000000) :
    Calls Try.prog 37 #[.pointer (some ⟨a, 0, none⟩)] w fun e w' => ∃ c, e = .returned (.pointer (some ⟨c, 0, none⟩)) ∧ Cl0 W w' a r p n c := by
  obtain ⟨F, G, h1, h2, h3, h4⟩ := h
  exact (h1.copy h4.size hn).mono fun e w' ⟨c, he, k1, k2, _, hb⟩ => ⟨c, he, w, F, G, h1, h2, h3, h4, k1, k2, hb⟩
theorem Cl0.copy {c : Nat} (h : Cl0 W w a r p n c) (hn : n ≤ 1000000000) :
    Calls Try.prog 41 #[.pointer (some ⟨r, 0, none⟩)] w fun e w' => ∃ s, e = .returned (.pointer (some ⟨s, 0, none⟩)) ∧ Hd W w' a r p n c s p n := by
  obtain ⟨w0, F, G, h1, h2, h3, h4, k1, k2, hb⟩ := h
  have hS : ∀ j, j < w0.heap.size → ¬ F j → ¬ (New w0 w j ∨ F j ∨ False) := fun j hj hn hf => by
    rcases hf with hf | hf | hf
    · have := hf.1; omega
    · exact hn hf
    · exact hf
  have hr := (h2.monoS hS).below hb
  obtain ⟨_, _, _, _, _, hr⟩ := hr
  refine (Ref.clone_any hr h1.ok (h1.low hn)).mono fun e w' ⟨s, he, hs, hb2⟩ => ⟨s, he, ?_⟩
  refine Hd.swap ⟨New w0 w, New w w', F, G, Four.clones h1 h2 (fun j hj => ⟨hj, fun hf => hf⟩) h3 h4.size (fun _ hf => hf.elim) k1 k2 hb hb2 hs, h4.trans ((hb.trans (hb2.mono hb.size)).mono h4.size)⟩
theorem Beg.new {w0 w1 : World} {zs1 zs2 : List Int} (hw : Below W.heap.size W w0) (hp : PlantAt w1 (New w0 w1) a p) (hb : Below w0.heap.size w0 w1) (hn : newM zs1 zs2 = some p) (hr : RefAt (fun j => ¬ New w0 w1 j) w (New w1 w) r p) (hb2 : Below w1.heap.size w1 w) : Beg W w a r p 0 :=
  ⟨New w0 w1, New w1 w, (St.new hp hw.size hn).below hb2, hr, fun j hj => ⟨fun hf => by have h1 := hj.1; have h2 := hf.2; omega, by have h1 := hj.1; have h2 := hb.size; have h3 := hw.size; omega, hj.2⟩, hw.trans ((hb.trans (hb2.mono hb.size)).mono hw.size)⟩
end
end Go.Proofs.Ytomncfiklkhfjaa.Ref
/- 'kind' and 'sector' of the law. -/
namespace Go.Proofs.Ytomncfiklkhfjaa.Ref
open Go Go.RowKit Mem Pl
def kindM (n : Int) : Int := (if n < 0 then -(n + 1) else n) % 14
theorem kind_any (w : World) (n : Int) (h1 : -9223372036854775808 ≤ n) (h2 : n < 9223372036854775808) : Calls Try.prog 43 #[.int .i64 n] w fun e w' => e = .returned (.int .i64 (kindM n)) ∧ w = w' := by
  by_cases h0 : n < 0
  · have e : kindM n = (-(n + 1)) % 14 := by unfold kindM; rw [if_pos h0]
    rw [e]
    have hw1 : IntKind.i64.wrap (n + 1) = n + 1 := IntWalk.i64_in _ (by omega)
    have hw2 : IntKind.i64.wrap (-(n + 1)) = -(n + 1) := IntWalk.i64_in _ (by omega)
    have ht : (-(n + 1)).tmod 14 = (-(n + 1)) % 14 := IntWalk.rem_in _ _ (by omega)
    go_enter Try.func43, Try.ntmps43
    go_wp2_with fail
    go_ret
    exact ⟨rfl, rfl⟩
  · have e : kindM n = n % 14 := by unfold kindM; rw [if_neg h0]
    rw [e]
    have ht : n.tmod 14 = n % 14 := IntWalk.rem_in _ _ (by omega)
    go_enter Try.func43, Try.ntmps43
    go_wp2_with fail
    go_ret
    exact ⟨rfl, rfl⟩
theorem kindM_lt (n : Int) : 0 ≤ kindM n ∧ kindM n < 14 := by unfold kindM; omega
/-- An own row without room is its block. -/
theorem own_blk {w : World} {base : Nat} {e : TypeId} {g n : Nat} {bs : List UInt8} (h : Own w base e (some ⟨g, 0, none⟩) n n bs) : base ≤ g ∧ Blk w g e (cellsOf bs) := by
  have hl := h.len
  rcases h.2 with ⟨h', _⟩ | ⟨g', cap, cur, h', hb, hh, _, _, hcs, htk⟩
  · cases h'
  · injection h' with h1 _ h3
    injection h1 with h1
    injection h1 with h1
    subst h1 h3
    have e : cur = cellsOf bs := by
      refine Array.toList_inj.1 ?_
      unfold cellsOf
      rw [List.take_of_length_le (by simp [hcs])] at htk
      simpa using htk
    rw [← e]
    exact ⟨hb, hh⟩
/-- What is written. -/
def secB (place n : Int) (c : UInt8) : List UInt8 := ((fullB c).set 0 (byteOf place)).set 40 (byteOf n)
theorem secB_len (place n : Int) (c : UInt8) : (secB place n c).length = 64 := by unfold secB; rw [List.length_set, List.length_set, fullB_len]
theorem sector_any (w : World) (kd dv pl at_ n : Int) (c : UInt8) (kv : Value) : Calls Try.prog 42 #[.agg #[.int .i64 kd, .int .i64 dv, .int .i64 pl, .int .i64 at_, .int .i64 n, .int .u8 (V8 c), kv]] w
    fun e w' => ∃ g, e = .returned (.slice (some ⟨g, 0, none⟩) 64 64) ∧ w.heap.size ≤ g ∧ Blk w' g 5 (cellsOf (secB pl n c)) ∧ Below w.heap.size w w' := by
  have hs0 := Blk.new w 70 #[.int .i64 kd, .int .i64 dv, .int .i64 pl, .int .i64 at_, .int .i64 n, .int .u8 (V8 c), kv]
  have HS0 := Lib.hid hs0
  have hb0 : Below w.heap.size w (w.alloc (.cells #[.int .i64 kd, .int .i64 dv, .int .i64 pl, .int .i64 at_, .int .i64 n, .int .u8 (V8 c), kv] 70)) := below_al' _
  have HB0 := Lib.hid hb0
  clear hs0 hb0
  go_enter Try.func42, Try.ntmps42
  go_wp2_with fail
  refine (full_any _ c).mono ?_
  rintro e w1 ⟨g, rfl, ho, hb⟩
  obtain ⟨hg0, hbk⟩ := own_blk ho
  have hs1 := HS0.out.below_ hb
  have HB1 : Hid (Below w.heap.size w w1) := Lib.hid (HB0.out.trans (hb.mono HB0.out.size))
  have hwg : w.heap.size + 1 ≤ g := by simpa using hg0
  clear ho hb HS0 HB0 hg0
  have c2 := (hs1.cell 2).trans (show _ = some (.int .i64 pl) from rfl)
  have c4 := (hs1.cell 4).trans (show _ = some (.int .i64 n) from rfl)
  have hk1 : V8 (byteOf pl) = pl % 256 := V8_byteOf pl
  have hk2 : V8 (byteOf n) = n % 256 := V8_byteOf n
  have hne : w.heap.size ≠ g := by omega
  have hb2 := hbk.setByte 0 (byteOf pl)
  have hb3 := hb2.setByte 40 (byteOf n)
  have hz1 := hbk.byte (k := 0) (by rw [fullB_len]; omega)
  have hf1 := hbk.frozen 0
  have hz2 := hb2.byte (k := 40) (by rw [List.length_set, fullB_len]; omega)
  have hf2 := hb2.frozen 40
  have c4' := ((hs1.far (p := ⟨g, 0, none⟩) hne (.int .u8 (V8 (byteOf pl)))).cell 4).trans (show _ = some (.int .i64 n) from rfl)
  have HB3 := Lib.hid hb3
  rw [hk1] at hz2 hf2 c4'
  clear hb2 hb3 hbk hs1
  go_wp2_with fail
  go_ret
  refine ⟨g, rfl, by omega, ?_, ?_⟩
  · have := HB3.out
    rw [hk1, hk2] at this
    exact this
  · exact (HB1.out.setCell (p := ⟨g, 0, none⟩) (by show w.heap.size ≤ g; omega) _).setCell (p := ⟨g, 40, none⟩) (by show w.heap.size ≤ g; omega) _
end Go.Proofs.Ytomncfiklkhfjaa.Ref
/- The plain law of 'PlantTapes': behind a boot a tape has a beginning of what was appended. No program. -/
namespace Go.Proofs.Ytomncfiklkhfjaa.Pl.Tapes
open Go Go.RowKit Mem
variable (blk : Nat → List UInt8)
/-- Blocks j .. i - 1 wait. -/
def wrs (j k : Nat) : List Wr := (List.range' j k).map fun i => ⟨1, i, blk i⟩
def hasOf (j : Nat) : List (List UInt8) := (List.range j).map blk
/-- A plant with a disk of one sector and a tape of forty blocks. -/
def TM (H : List (List UInt8)) (ws : List Wr) (s : Nat) : PM := { disks := [1], tapes := [40], devs := [⟨false, 1, [zeros]⟩, ⟨true, 40, H⟩], waits := ws, off := false, fuse := none, steps := s, now := 0 }
theorem TM_new : newM [1] [40] = some (TM [] [] 0) := by kernel_rfl
theorem cnt_all (ws : List Wr) (h : ∀ x ∈ ws, x.dev = 1) : cnt ws 1 = ws.length := by
  unfold cnt
  rw [List.countP_eq_length]
  exact fun x hx => by simpa using h x hx
theorem wrs_dev (j k : Nat) : ∀ x ∈ wrs blk j k, x.dev = 1 := fun x hx => by
  obtain ⟨i, _, rfl⟩ := List.mem_map.1 hx
  rfl
theorem wrs_len (j k : Nat) : (wrs blk j k).length = k := by simp [wrs]
theorem wrs_next (j k : Nat) : wrs blk j (k + 1) = wrs blk j k ++ [⟨1, j + k, blk (j + k)⟩] := by
  unfold wrs
  rw [List.range'_concat]
  simp
theorem hasOf_len (j : Nat) : (hasOf blk j).length = j := by simp [hasOf]
theorem hasOf_next (j : Nat) : hasOf blk (j + 1) = hasOf blk j ++ [blk j] := by
  unfold hasOf
  rw [List.range_succ]
  simp
theorem TM_append (hb : ∀ i, (blk i).length = 64) (H : List (List UInt8)) (ws : List Wr) (s : Nat) (i : Nat) (hw : ∀ x ∈ ws, x.dev = 1) (hi : H.length + ws.length = i) (b : List UInt8) (h64 : b.length = 64) :
    (TM H ws s).append 1 b = if i = 40 then (TM H ws s, 0, 3) else (TM H (ws ++ [⟨1, i, b⟩]) (s + 1), (i : Int), 0) := by
  have hsz : (⟨true, 40, H⟩ : Dev).size ws 1 = i := by
    unfold Dev.size
    rw [cnt_all ws hw]
    exact hi
  have hstep : (TM H ws s).step = ({ TM H ws s with steps := s + 1 }, true) := rfl
  have hnum : (TM H ws s).num 1 = some 1 := by unfold PM.num; rfl
  unfold PM.append
  rw [hnum]
  show (if false = true then _ else if (true = false) then _ else if b.length ≠ 64 then _ else if (⟨true, 40, H⟩ : Dev).size ws 1 = 40 then _ else _) = _
  rw [if_neg (by simp), if_neg (by simp), if_neg (by simp [h64]), hsz]
  by_cases h40 : i = 40
  · rw [if_pos h40, if_pos h40]
  · rw [if_neg h40, if_neg h40]
    have hg : (TM H ws s).give 1 i b = (TM H (ws ++ [⟨1, i, b⟩]) (s + 1), 0) := by
      unfold PM.give
      rw [hstep]
      rfl
    show (if ((TM H ws s).give 1 ((⟨true, 40, H⟩ : Dev).size ws 1) b).2 = 0 then (((TM H ws s).give 1 ((⟨true, 40, H⟩ : Dev).size ws 1) b).1, (((⟨true, 40, H⟩ : Dev).size ws 1 : Nat) : Int), (0 : Int)) else _) = _
    rw [hsz, hg]
    rfl
theorem settle_TM (H : List (List UInt8)) (x : Wr) (hx : x.dev = 1) : settle [⟨false, 1, [zeros]⟩, ⟨true, 40, H⟩] x = [⟨false, 1, [zeros]⟩, ⟨true, 40, H ++ [x.b]⟩] := by
  unfold settle
  rw [hx]
  rfl
theorem fold_TM : ∀ (ws : List Wr) (H : List (List UInt8)), (∀ x ∈ ws, x.dev = 1) → ws.foldl settle [⟨false, 1, [zeros]⟩, ⟨true, 40, H⟩] = [⟨false, 1, [zeros]⟩, ⟨true, 40, H ++ ws.map (·.b)⟩]
  | [], H, _ => by simp
  | x :: ws, H, h => by
    rw [List.foldl_cons, settle_TM H x (h x (by simp)), fold_TM ws _ (fun y hy => h y (by simp [hy]))]
    simp
theorem wrs_b (j k : Nat) : (wrs blk j k).map (·.b) = (List.range' j k).map blk := by
  unfold wrs
  rw [List.map_map]
  rfl
theorem TM_flush (f s : Nat) : (TM [] (wrs blk 0 f) s).flush 1 = (TM (hasOf blk f) [] (s + 1), 0) := by
  have hstep : (TM [] (wrs blk 0 f) s).step = ({ TM [] (wrs blk 0 f) s with steps := s + 1 }, true) := rfl
  have hnum : (TM [] (wrs blk 0 f) s).num 1 = some 1 := by unfold PM.num; rfl
  unfold PM.flush
  rw [hnum, hstep]
  show (({ TM [] (wrs blk 0 f) s with steps := s + 1, devs := ((wrs blk 0 f).filter fun x => x.dev == 1).foldl settle [⟨false, 1, [zeros]⟩, ⟨true, 40, []⟩], waits := (wrs blk 0 f).filter fun x => !(x.dev == 1) } : PM), (0 : Int)) = _
  have h1 : (wrs blk 0 f).filter (fun x => x.dev == 1) = wrs blk 0 f := List.filter_eq_self.2 fun x hx => by simpa using wrs_dev blk 0 f x hx
  have h2 : (wrs blk 0 f).filter (fun x => !(x.dev == 1)) = [] := List.filter_eq_nil_iff.2 fun x hx => by simpa using wrs_dev blk 0 f x hx
  rw [h1, h2, fold_TM _ _ (wrs_dev blk 0 f), wrs_b]
  unfold hasOf
  rw [List.range_eq_range']
  rfl
/-- What a tape has behind a boot. -/
def Good (j n : Nat) (H : List (List UInt8)) : Prop := j ≤ H.length ∧ H.length ≤ n ∧ ∀ i, i < H.length → H[i]? = some (blk i) ∨ (i + 1 = H.length ∧ j ≤ i ∧ H[i]? = some (torn (blk i)))
theorem hasOf_get {j i : Nat} (h : i < j) : (hasOf blk j)[i]? = some (blk i) := by
  unfold hasOf
  simp [h]
theorem good_has {j m n : Nat} (h1 : j ≤ m) (h2 : m ≤ n) : Good blk j n (hasOf blk m) := by
  refine ⟨by rw [hasOf_len]; exact h1, by rw [hasOf_len]; exact h2, fun i hi => ?_⟩
  rw [hasOf_len] at hi
  exact .inl (hasOf_get blk hi)
theorem good_torn {j m n : Nat} (h1 : j ≤ m) (h2 : m + 1 ≤ n) : Good blk j n (hasOf blk m ++ [torn (blk m)]) := by
  have hl : (hasOf blk m ++ [torn (blk m)]).length = m + 1 := by simp [hasOf_len]
  refine ⟨by rw [hl]; omega, by rw [hl]; exact h2, fun i hi => ?_⟩
  rw [hl] at hi ⊢
  rcases Nat.lt_or_ge i m with h | h
  · left
    rw [List.getElem?_append_left (by rw [hasOf_len]; exact h)]
    exact hasOf_get blk h
  · have : i = m := by omega
    subst this
    right
    refine ⟨rfl, h1, ?_⟩
    rw [List.getElem?_append_right (by rw [hasOf_len]; exact Nat.le_refl _), hasOf_len]
    simp
theorem bs_e {keep : List Int} {q : Nat} {s1 : List Dev} {x : Nat} {b : List UInt8} : bootStep keep (s1, [1]) q ⟨1, x, b⟩ = (s1, [1]) := by
  unfold bootStep
  rw [if_pos (by rfl)]
theorem boot_inv (keep : List Int) (j k s : Nat) : ∀ q, q ≤ k → ∃ H, ((TM (hasOf blk j) (wrs blk j k) s).bootAt keep q).1 = [⟨false, 1, [zeros]⟩, ⟨true, 40, H⟩] ∧ Good blk j (j + q) H ∧ (((TM (hasOf blk j) (wrs blk j k) s).bootAt keep q).2 = [] ∧ H = hasOf blk (j + q) ∨ ((TM (hasOf blk j) (wrs blk j k) s).bootAt keep q).2 = [1])
  | 0, _ => ⟨hasOf blk j, rfl, good_has blk (Nat.le_refl _) (Nat.le_refl _), .inl ⟨rfl, rfl⟩⟩
  | q + 1, hq => by
    obtain ⟨H, h1, h2, h3⟩ := boot_inv keep j k s q (by omega)
    have hx : (TM (hasOf blk j) (wrs blk j k) s).waits[q]? = some ⟨1, j + q, blk (j + q)⟩ := by
      show (wrs blk j k)[q]? = _
      unfold wrs
      rw [List.getElem?_map, List.getElem?_range' (by omega)]
      simp
    rw [PM.bootAt_next hx]
    generalize (TM (hasOf blk j) (wrs blk j k) s).bootAt keep q = st at h1 h3
    obtain ⟨s1, s2⟩ := st
    simp only at h1 h3
    subst h1
    have hmono : Good blk j (j + (q + 1)) H := ⟨h2.1, by have := h2.2.1; omega, h2.2.2⟩
    rcases h3 with ⟨rfl, rfl⟩ | rfl
    · unfold bootStep
      simp only [List.contains_nil, Bool.false_eq_true, if_false]
      have htp : (([⟨false, 1, [zeros]⟩, ⟨true, 40, hasOf blk (j + q)⟩] : List Dev)[1]?).any (·.tape) = true := rfl
      by_cases hodd : keepAt keep q % 2 ≠ 0
      · rw [if_pos hodd]
        refine ⟨hasOf blk (j + (q + 1)), ?_, good_has blk (by omega) (Nat.le_refl _), .inl ⟨rfl, rfl⟩⟩
        show settle _ _ = _
        rw [settle_TM _ _ rfl, show j + (q + 1) = j + q + 1 by omega, hasOf_next]
      · rw [if_neg hodd]
        simp only [htp, if_true]
        by_cases h42 : keepAt keep q % 4 = 2
        · rw [if_pos h42]
          refine ⟨hasOf blk (j + q) ++ [torn (blk (j + q))], ?_, good_torn blk (by omega) (by omega), .inr rfl⟩
          show settle _ _ = _
          rw [settle_TM _ _ rfl]
        · rw [if_neg h42]
          exact ⟨hasOf blk (j + q), rfl, hmono, .inr rfl⟩
    · refine ⟨H, ?_, hmono, .inr ?_⟩
      · rw [bs_e]
      · rw [bs_e]
theorem TM_boot (keep : List Int) (j k s : Nat) : ∃ H, (TM (hasOf blk j) (wrs blk j k) s).boot keep = TM H [] s ∧ Good blk j (j + k) H := by
  obtain ⟨H, h1, h2, _⟩ := boot_inv blk keep j k s k (Nat.le_refl _)
  refine ⟨H, ?_, h2⟩
  rw [PM.boot_eq]
  have e : (TM (hasOf blk j) (wrs blk j k) s).waits.length = k := wrs_len blk j k
  rw [e, h1]
  rfl
theorem TM_len (H : List (List UInt8)) (s : Nat) : (TM H [] s).len 1 = ((H.length : Int), 0) := by
  have hnum : (TM H [] s).num 1 = some 1 := by unfold PM.num; rfl
  unfold PM.len
  rw [hnum]
  rfl
theorem TM_read (H : List (List UInt8)) (s i : Nat) {b : List UInt8} (h : H[i]? = some b) : (TM H [] s).read 1 (i : Int) = (some b, 0) := by
  have hi := (List.getElem?_eq_some_iff.1 h).1
  have hnum : (TM H [] s).num 1 = some 1 := by unfold PM.num; rfl
  unfold PM.read
  rw [hnum]
  show (if false = true then _ else if 0 ≤ (i : Int) ∧ (i : Int) < ((⟨true, 40, H⟩ : Dev).size [] 1 : Nat) then (some (lastW [] 1 (i : Int).toNat ((⟨true, 40, H⟩ : Dev).at_ (i : Int).toNat)), (0 : Int)) else _) = _
  rw [if_neg (by simp), if_pos ⟨by omega, by show (i : Int) < ((H.length + cnt [] 1 : Nat) : Int); simp [cnt]; exact hi⟩]
  unfold lastW Dev.at_
  simp [List.getD_eq_getElem?_getD, h]
theorem good_len64 (hb : ∀ i, (blk i).length = 64) {j n : Nat} {H : List (List UInt8)} (h : Good blk j n H) {i : Nat} {b : List UInt8} (hi : H[i]? = some b) : b.length = 64 := by
  rcases h.2.2 i (List.getElem?_eq_some_iff.1 hi).1 with h1 | ⟨_, _, h1⟩
  · rw [hi] at h1; injection h1 with h1; rw [h1]; exact hb i
  · rw [hi] at h1; injection h1 with h1; rw [h1]; exact torn_len (hb i)
end Go.Proofs.Ytomncfiklkhfjaa.Pl.Tapes
/- The walk of 'PlantTapes' (printed by wip/gen_tapes.py). -/
namespace Go.Proofs.Ytomncfiklkhfjaa.Pl.Tapes
open Go Go.RowKit Mem
def blkOf (bs : List UInt8) (i : Nat) : List UInt8 := fullB (bs.getD i 0)
theorem blkOf_len (bs : List UInt8) (i : Nat) : (blkOf bs i).length = 64 := fullB_len _
/-- What holds at the head of a round of the first loop. -/
def R1 (W : World) (a : Nat) (bs : List UInt8) (f m : Nat) (iv : Value) (wr : World) : Prop :=
  ∃ (i j k s c : Nat) (F : Nat → Prop), i ≤ m ∧ iv = .int .i64 (i : Int) ∧ j + k = i ∧ (i ≤ f ∧ j = 0 ∨ f < i ∧ j = f) ∧ Below W.heap.size W wr ∧ c ≤ 2 * i ∧ St W.heap.size wr F a (TM (hasOf (blkOf bs) j) (wrs (blkOf bs) j k) s) c
def R2 (W : World) (a : Nat) (H : List (List UInt8)) (s c : Nat) (F : Nat → Prop) (iv : Value) (wr : World) : Prop :=
  ∃ i : Nat, i ≤ H.length ∧ iv = .int .i64 (i : Int) ∧ Below W.heap.size W wr ∧ St W.heap.size wr F a (TM H [] s) c
theorem byteAt {bs : List UInt8} {A : Option Addr} {w : World} (h : BAt w A bs) {i : Nat} (hi : i < bs.length) : ∃ ad, A = some ad ∧ ∀ w', Below w.heap.size w w' → w'.cell? (ad.add i) = some (.int .u8 (V8 (bs.getD i 0))) := by
  obtain ⟨ad, hA, hc⟩ := h (by omega)
  exact ⟨ad, hA, fun w' hb => (hb.cell (cell_lt (hc i hi))).trans (hc i hi)⟩
theorem iat_lt {zs : List Int} {A : Option Addr} {w : World} (h : IAt w A zs) (hne : zs ≠ []) (ad : Addr) (hA : A = some ad) : ad.block < w.heap.size := by
  rcases h with h | ⟨ad', hA', hc⟩
  · exact absurd h hne
  · rw [hA] at hA'
    injection hA' with hA'
    subst hA'
    cases zs with
    | nil => exact absurd rfl hne
    | cons z zs => exact cell_lt (hc 0 z rfl)
theorem tape_app (bs : List UInt8) {j k i s : Nat} (h : j + k = i) (hi : i < 40) : (TM (hasOf (blkOf bs) j) (wrs (blkOf bs) j k) s).append 1 (blkOf bs i) = (TM (hasOf (blkOf bs) j) (wrs (blkOf bs) j (k + 1)) (s + 1), (i : Int), 0) := by
  rw [TM_append (blkOf bs) (blkOf_len bs) _ _ s i (wrs_dev _ _ _) (by rw [hasOf_len, wrs_len]; exact h) _ (blkOf_len bs i), if_neg (by omega), wrs_next, h]
theorem run_append_half {w : World} {g : Nat} {old : List UInt8} (hb : Blk w g 5 (cellsOf old)) (hl : old.length = 64) :
    ∃ w', (Builtin.append_ #[28, 3] 28 #[.slice (some ⟨g, 0, none⟩) 32 64, .int .i64 32]).run Try.prog w = .ok (.slice (some ⟨g, 0, none⟩) 64 64) w' ∧ Blk w' g 5 (cellsOf (torn old)) ∧ w.grownBy w' (some g) := by
  obtain ⟨i, hi, hz, hs, hby⟩ := elByte.info
  have hzl : (Builtin.zeroCells #[.int .u8 0] 32).toList.length = 32 := by kernel_rfl
  have hone := zeroCells_one (zs := #[.int .u8 0]) (by intro v hv; simp at hv; subst hv; rfl) 32
  have hrun := run_storeCells_cells (P := Try.prog) g 32 (Builtin.zeroCells #[.int .u8 0] 32).toList 0 w (fun j hj => by rw [hb.cell]; simp [cellsOf]; omega) (fun j hj => hb.frozen _) hone
  have hb2 : Blk w g 5 (old.map B8).toArray := hb
  obtain ⟨k1, k2, k3⟩ := setCells_blk (Builtin.zeroCells #[.int .u8 0] 32).toList (old.map B8) 32 w hb2 (by rw [hzl, List.length_map]; omega)
  refine ⟨w.setCells g 32 (Builtin.zeroCells #[.int .u8 0] 32).toList, ?_, ?_, k2⟩
  · simp only [Nat.add_zero] at hrun
    have hw : IntKind.i64.wrap (32 : Int) = (32 : Int) := IntWalk.i64_in _ (by omega)
    simp [Builtin.append_, run_underlying Try.underlying28, run_underlying Try.underlying3, sizeOf, typeInfo, zeroValue, hi, hz, hs, hby, asInt, asIntOf, hw, Addr.add, Value.cells, hrun]
  · have e : (List.take 32 (old.map B8) ++ (Builtin.zeroCells #[.int .u8 0] 32).toList ++ List.drop (32 + (Builtin.zeroCells #[.int .u8 0] 32).toList.length) (old.map B8)).toArray = cellsOf (torn old) := by
      have hz8 : (Builtin.zeroCells #[.int .u8 0] 32).toList = (List.replicate 32 (0 : UInt8)).map B8 := by kernel_rfl
      rw [hzl, List.drop_eq_nil_of_le (by rw [List.length_map]; omega), hz8]
      unfold cellsOf torn
      simp
    rw [← e]
    exact k1
theorem own_blk {w : World} {base g : Nat} {bs : List UInt8} (h : Own w base 5 (some ⟨g, 0, none⟩) 64 64 bs) : Blk w g 5 (cellsOf bs) ∧ base ≤ g := by
  obtain ⟨_, h2⟩ := h
  rcases h2 with ⟨h0, _⟩ | ⟨g', cap', cur, hv, hg, hh, hn, hcap, hsz, htake⟩
  · cases h0
  · cases hv
    refine ⟨?_, hg⟩
    have e : cur = cellsOf bs := by
      rw [List.take_of_length_le (by simp [hsz])] at htake
      unfold cellsOf
      rw [← htake]
    rw [← e]
    exact hh
theorem wpList_append_want {P : Program} {w : World} {ops : Array Oper} {rest : List Oper} {o : Oper} {a : Act} {Q : Exit → Act → World → Prop} (hgd : Region.wanted o (yielded ops a.tmps) = true) (s x : Operand) (t tx : TypeId)
    (ho : o.op = .call { callee := .builtin .append, args := #[s, x], argTypes := #[t, tx] }) (vs vx v : Value) (w' : World) (hs : a.eval s = vs) (hx : a.eval x = vx)
    (hrun : (Builtin.append_ #[t, tx] o.type #[vs, vx]).run P w = .ok v w') (h : wpList P ops Q rest (a.put o.dst v) w') : wpList P ops Q (o :: rest) a w :=
  BigFrame.wpList_want hgd fun _ hK => by
    subst hs hx
    unfold Oper.wp execOp
    simp only [ho, resolve, invoke, builtin, Sem.run_bind, Sem.run_pure, Result.andThen_ok, List.map_toArray, List.map_cons, List.map_nil, hrun]
    exact hK _ _ h
end Go.Proofs.Ytomncfiklkhfjaa.Pl.Tapes
/- The round of 'PlantPlays': its states, and the code of its fourteen ways. -/
namespace Go.Proofs.Ytomncfiklkhfjaa.Ref
open Go Go.RowKit Mem Pl
/-- A call of the row. -/
structure OpM where
  kd : Int
  dv : Int
  pl : Int
  at_ : Int
  n : Int
  byte : UInt8
  AK : Option Addr
  nk : Nat
  ck : Nat
  keep : List Int
def OpM.val (o : OpM) : Array Value := #[.int .i64 o.kd, .int .i64 o.dv, .int .i64 o.pl, .int .i64 o.at_, .int .i64 o.n, .int .u8 (V8 o.byte), .slice o.AK o.nk o.ck]
def inI (z : Int) : Prop := -9223372036854775808 ≤ z ∧ z < 9223372036854775808
structure OpOk (W : World) (o : OpM) : Prop where
  keep : IAt W o.AK o.keep
  len : o.keep.length = o.nk
  nk : o.nk ≤ 9223372036854775807
  kd : inI o.kd
  at_ : inI o.at_
  n : inI o.n
def OpAt (W : World) (q : Addr) (o : OpM) : Prop :=
  W.cell? q = some (.int .i64 o.kd) ∧ W.cell? ⟨q.block, q.off + 1, none⟩ = some (.int .i64 o.dv) ∧ W.cell? ⟨q.block, q.off + 2, none⟩ = some (.int .i64 o.pl) ∧ W.cell? ⟨q.block, q.off + 3, none⟩ = some (.int .i64 o.at_) ∧ W.cell? ⟨q.block, q.off + 4, none⟩ = some (.int .i64 o.n) ∧
  W.cell? ⟨q.block, q.off + 5, none⟩ = some (.int .u8 (V8 o.byte)) ∧ W.cell? ⟨q.block, q.off + 6, none⟩ = some (.slice o.AK o.nk o.ck)
theorem OpAt.below {W w : World} {q : Addr} {o : OpM} (h : OpAt W q o) (hb : Below W.heap.size W w) : OpAt w q o := by
  obtain ⟨h0, h1, h2, h3, h4, h5, h6⟩ := h
  exact ⟨(hb.cell (cell_lt h0)).trans h0, (hb.cell (cell_lt h1)).trans h1, (hb.cell (cell_lt h2)).trans h2, (hb.cell (cell_lt h3)).trans h3, (hb.cell (cell_lt h4)).trans h4, (hb.cell (cell_lt h5)).trans h5, (hb.cell (cell_lt h6)).trans h6⟩
/-- The row of calls lies there. -/
def OpsAt (W : World) (A : Option Addr) (os : List OpM) : Prop :=
  ∀ i o, os[i]? = some o → ∃ ad, A = some ad ∧ OpAt W (ad.add (i * 7)) o ∧ OpOk W o
/-- The loop. -/
def PR (W : World) (m k : Nat) (iv xv yv zv sv : Value) (wr : World) : Prop :=
  ∃ (i a r : Nat) (p : PM) (n a' r' : Nat) (p' : PM) (n' : Nat), i + k = m ∧ iv = .int .i64 (i : Int) ∧ xv = .pointer (some ⟨a, 0, none⟩) ∧ yv = .pointer (some ⟨r, 0, none⟩) ∧ zv = .pointer (some ⟨a', 0, none⟩) ∧ sv = .pointer (some ⟨r', 0, none⟩) ∧ n ≤ i ∧ n' ≤ i ∧ Hd W wr a r p n a' r' p' n'
/-- Where the fourteen ways meet. -/
def MidP (W : World) (i o : Nat) (cs : Array Value) (g : Nat) (xv yv zv sv : Value) (wc : World) : Prop :=
  ∃ (a r : Nat) (p : PM) (n a' r' : Nat) (p' : PM) (n' : Nat) (b : List UInt8), xv = .pointer (some ⟨a, 0, none⟩) ∧ yv = .pointer (some ⟨r, 0, none⟩) ∧ zv = .pointer (some ⟨a', 0, none⟩) ∧ sv = .pointer (some ⟨r', 0, none⟩) ∧ n ≤ i + 1 ∧ n' ≤ i + 1 ∧ b.length = 64 ∧ Rd W wc a r p p n a' r' p' n' o cs g b
/-- What was read is written over. -/
def RC (w0 w : World) (AC : Option Addr) (mc kc : Nat) (kv : Value) : Prop :=
  ∃ (k : Nat) (bs : List UInt8), k ≤ mc ∧ kv = .int .i64 (k : Int) ∧ Own w w0.heap.size 5 AC mc kc bs ∧ Below w0.heap.size w0 w
/-- The row is written over. -/
def RB (W : World) (a r : Nat) (p : PM) (n a' r' : Nat) (p' : PM) (n' o : Nat) (cs : Array Value) (g : Nat) (kv : Value) (w : World) : Prop :=
  ∃ (k : Nat) (b : List UInt8), k ≤ 64 ∧ kv = .int .i64 (k : Int) ∧ b.length = 64 ∧ Rd W w a r p p n a' r' p' n' o cs g b
theorem Rd.oc {W w : World} {a r : Nat} {p pr : PM} {n a' r' : Nat} {p' : PM} {n' o g : Nat} {b : List UInt8} {v0 v1 v2 v3 v4 v5 v6 : Value} (h : Rd W w a r p pr n a' r' p' n' o #[v0, v1, v2, v3, v4, v5, v6] g b) :
    w.cell? ⟨o, 0, none⟩ = some v0 ∧ w.cell? ⟨o, 1, none⟩ = some v1 ∧ w.cell? ⟨o, 2, none⟩ = some v2 ∧ w.cell? ⟨o, 3, none⟩ = some v3 ∧ w.cell? ⟨o, 4, none⟩ = some v4 ∧ w.cell? ⟨o, 5, none⟩ = some v5 ∧ w.cell? ⟨o, 6, none⟩ = some v6 ∧ o < w.heap.size := by
  have h := h.op
  exact ⟨h.cell 0, h.cell 1, h.cell 2, h.cell 3, h.cell 4, h.cell 5, h.cell 6, h.lt⟩
theorem Hd.hasv {W w : World} {a r : Nat} {p : PM} {n a' r' : Nat} {p' : PM} {n' : Nat} (h : Hd W w a r p n a' r' p' n') : p.devs.length ≤ 12 ∧ ∃ A c, w.cell? ⟨r, 2, none⟩ = some (.slice A p.devs.length c) ∧
    ∀ d dd, p.devs[d]? = some dd → ∃ g A' c', A = some ⟨g, 0, none⟩ ∧ w.cell? ⟨g, d, none⟩ = some (.slice A' dd.has.length c') := by
  obtain ⟨F, G, F', G', h, _⟩ := h
  have hn := h.s1.ok.n12
  obtain ⟨_, _, _, V, _, hr⟩ := h.r1
  obtain ⟨A, c, rfl⟩ := hr.has.shape
  have h2 := hr.c2
  rw [List.length_map] at h2
  refine ⟨hn, A, c, h2, fun d dd hd => ?_⟩
  obtain ⟨g, A', c', hA, _, hc, _⟩ := hr.has.row (devs_has hd)
  exact ⟨g, A', c', hA, hc⟩
/-- The block of a number within code. -/
def findBlock (k : Nat) : Code → Option Code
  | .block j c => if j = k then some (.block j c) else findBlock k c
  | .loop c => findBlock k c
  | .scope c => findBlock k c
  | .seq a b => match findBlock k a with
    | some c => some c
    | none => findBlock k b
  | .cond _ a b => match findBlock k a with
    | some c => some c
    | none => findBlock k b
  | _ => none
end Go.Proofs.Ytomncfiklkhfjaa.Ref
