/- The reference's 'New'. -/
import Derived.Test.YtookhagpgkefpaaDoorFold18
namespace Go.Proofs.YtookhagpgkefpaaDoor.Ord
open Go.RowKit Mem
/-- Each of these may come up next. -/
theorem tb_each {P : Program} {ops : Array Oper} {Q : Exit → Act → World → Prop} {md : Region.Mode} {L : List Nat} {k : Nat} {listed : Array Bool} {a : Act} {w : World} (rs : List Nat) (hr : Region.ready md ops listed = rs) (hn : rs ≠ [])
    (h : ∀ m ∈ rs, ∃ o, ops[m]? = some o ∧ wpList P ops (NX (NP Q) fun a' w' => Below w.heap.size w w' ∧ TB P md ops Q L k (listed.setIfInBounds m true) a' w') [o] a w) : TB P md ops Q L (k + 1) listed a w := fun hcl =>
  ⟨fun h0 => absurd h0 (by rw [hr]; exact hn), fun m hm => by
    obtain ⟨o, ho, hx⟩ := h m (hr ▸ hm)
    exact wpOp_mono (fun a' w' x => ⟨fun _ => x.1, x.2 (hcl.set hm)⟩) (wpOp_of_list ho hx)⟩
end Go.Proofs.YtookhagpgkefpaaDoor.Ord
namespace Go.Proofs.YtookhagpgkefpaaDoor.Pag
open Go Go.RowKit Mem Pl Disk Crc _root_.Go.Proofs.YtookhagpgkefpaaDoor.Frame
theorem rep_cells (n : Nat) (z : Value) (hz : z.cells = #[z]) : madeCells z.cells (n * 1) = (List.replicate n z).toArray := by
  apply Array.ext'
  rw [hz, toList_madeCells_one, Nat.mul_one]
theorem run_makeRows {n : Nat} (hn : n ≤ 384) (w : World) : (Instr.makeSlice 47 (.int .i64 (n : Int)) (.int .i64 (n : Int))).run Tryd.prog w = .ok (.slice (some ⟨w.heap.size, 0, none⟩) n n) (w.alloc (.cells (List.replicate n (Value.slice none 0 0)).toArray 38)) := by
  have h := rowsTy
  obtain ⟨i, hi, hz, hs, hby⟩ := h.info
  have hr := run_make (P := Tryd.prog) w 47 38 i (.slice none 0 0) h.ht hi hz .i64 .i64 n n (by omega) (by omega) (by rw [hby]; omega) (by omega)
  simp only [Int.toNat_natCast, hs] at hr
  rw [rep_cells n _ rfl] at hr
  exact hr
theorem run_makeBools {n : Nat} (hn : n ≤ 384) (w : World) : (Instr.makeSlice 78 (.int .i64 (n : Int)) (.int .i64 (n : Int))).run Tryd.prog w = .ok (.slice (some ⟨w.heap.size, 0, none⟩) n n) (w.alloc (.cells (List.replicate n (Value.bool false)).toArray 4)) := by
  have h := boolTy
  obtain ⟨i, hi, hz, hs, hby⟩ := h.info
  have hr := run_make (P := Tryd.prog) w 78 4 i (.bool false) h.ht hi hz .i64 .i64 n n (by omega) (by omega) (by rw [hby]; omega) (by omega)
  simp only [Int.toNat_natCast, hs] at hr
  rw [rep_cells n _ rfl] at hr
  exact hr
theorem new_made {w w0 w1 w2 w3 w4 : World} {n gB gU gV gC : Nat} (hbd : Below w.heap.size w w0) (hb0 : Below w0.heap.size w0 w1) (hb1 : Below w1.heap.size w1 w2) (hb2 : Below w2.heap.size w2 w3) (hb3 : Below w3.heap.size w3 w4)
    (hkB : Blk w4 gB 38 (Array.replicate n (Value.slice none 0 0))) (hkU : Blk w4 gU 4 (Array.replicate n (Value.bool false))) (hkV : Blk w4 gV 4 (Array.replicate n (Value.bool false))) (hkC : Blk w4 gC 38 (Array.replicate n (Value.slice none 0 0)))
    (h1 : w.heap.size ≤ gB) (h2 : w.heap.size ≤ gU) (h3 : w.heap.size ≤ gV) (h4 : w.heap.size ≤ gC) (h5 : gU ≠ gV) (h6 : gB ≠ gC) (hn1 : 0 < n) (hn : n ≤ 384) :
    ∃ K J, RefP (w4.alloc (.cells (rCells (newR n) gB n gU n gV n gC n).toArray 80)) K J w4.heap.size (newR n) ∧ (∀ g, K g → w.heap.size ≤ g) ∧ (∀ g, J g → w.heap.size ≤ g) ∧ Below w.heap.size w (w4.alloc (.cells (rCells (newR n) gB n gU n gV n gC n).toArray 80)) := by
  rw [← List.toArray_replicate] at hkB hkU hkV hkC
  have hba := below_al' (w := w4) (.cells (rCells (newR n) gB n gU n gV n gC n).toArray 80)
  have hb : Below w.heap.size w w4 := hbd.trans ((hb0.trans ((hb1.trans ((hb2.trans (hb3.mono hb2.size)).mono hb1.size)).mono hb0.size)).mono hbd.size)
  have hlB := hkB.lt
  have hlU := hkU.lt
  have hlV := hkV.lt
  have hlC := hkC.lt
  have hBV : gB ≠ gV := hkB.ne_ hkV (by decide)
  have hUC : gU ≠ gC := hkU.ne_ hkC (by decide)
  have hsz : (w4.alloc (.cells (rCells (newR n) gB n gU n gV n gC n).toArray 80)).heap.size = w4.heap.size + 1 := by simp
  have hsw := hb.size
  have nilAt : ∀ (J : Nat → Prop) (w' : World), RowsJ w' J (List.replicate n []) (List.replicate n (Value.slice none 0 0)) := fun J w' k b hk => by
    have hk1 := (List.getElem?_eq_some_iff.1 hk).1
    have hk2 : b = [] := (List.mem_replicate.1 (List.mem_of_getElem? hk)).2
    subst hk2
    exact ⟨.slice none 0 0, by rw [List.getElem?_replicate, if_pos (by simpa using hk1)], Vec.nil_ _ _ _ _ _⟩
  have hbools : (List.replicate n false).map Value.bool = List.replicate n (Value.bool false) := by simp
  refine ⟨fun g => g = w4.heap.size ∨ g = gB ∨ g = gU, fun g => g = gV ∨ g = gC, ⟨gB, n, gU, n, gV, n, gC, n, List.replicate n (Value.slice none 0 0), List.replicate n (Value.slice none 0 0), ⟨⟨hn1, hn, by simp [newR], by simp [newR],
    Vec.of_blk (hkB.below_ hba) (.inr (.inl rfl)) (by simp [newR]) (show n ≤ maxLen by unfold maxLen; omega), ?_, ?_, Vec.of_blk (hkC.below_ hba) (.inr rfl) (by simp [newR]) (show n ≤ maxLen by unfold maxLen; omega), nilAt _ _, nilAt _ _, fun g hk hj => ?_, fun g hk => ?_, fun g hj => ?_⟩, Blk.new _ _ _, .inl rfl⟩⟩, fun g hk => ?_, fun g hj => ?_, hb.trans (hba.mono hb.size)⟩
  · show Vec _ _ _ _ _ _ ((List.replicate n false).map Value.bool)
    rw [hbools]
    exact Vec.of_blk (hkU.below_ hba) (.inr (.inr rfl)) (by simp [newR]) (show n ≤ maxLen by unfold maxLen; omega)
  · show Vec _ _ _ _ _ _ ((List.replicate n false).map Value.bool)
    rw [hbools]
    exact Vec.of_blk (hkV.below_ hba) (.inl rfl) (by simp [newR]) (show n ≤ maxLen by unfold maxLen; omega)
  · rcases hk with rfl | rfl | rfl <;> rcases hj with rfl | rfl <;> omega
  · rcases hk with rfl | rfl | rfl <;> omega
  · rcases hj with rfl | rfl <;> omega
  · rcases hk with rfl | rfl | rfl <;> omega
  · rcases hj with rfl | rfl <;> omega
set_option maxRecDepth 100000 in
set_option maxHeartbeats 4000000 in
/-- A disk of that many sectors. -/
theorem rnew_any (w : World) (s n : Nat) (hs : 10 ≤ s) (hsm : s ≤ 100000) (hsn : min ((s - 2) / 8) 384 = n) : Calls Tryd.prog 11 #[.int .i64 (s : Int)] w fun e w' =>
    ∃ y, e = .returned (.tuple #[.pointer (some ⟨y, 0, none⟩), .int .i64 0]) ∧ ∃ K J, RefP w' K J y (newR n) ∧ (∀ g, K g → w.heap.size ≤ g) ∧ (∀ g, J g → w.heap.size ≤ g) ∧ Below w.heap.size w w' := by
  have hn1 : 0 < n := by omega
  have hn : n ≤ 384 := by omega
  have hmR := fun w : World => run_makeRows hn w
  have hmB := fun w : World => run_makeBools hn w
  have hq1 : IntKind.i64.wrap ((s : Int) - 2) = (s : Int) - 2 := IntWalk.i64_in _ (by omega)
  have hq2 : Int.tdiv ((s : Int) - 2) 8 = (((s - 2) / 8 : Nat) : Int) := by rw [Int.tdiv_eq_ediv_of_nonneg (by omega)]; omega
  have hq3 : ¬ (s : Int) < 10 := by omega
  go_enter Tryd.func11, Tryd.ntmps11
  have hq4 : (if (384 : Int) < ((s - 2 : Nat) : Int) / 8 then (384 : Int) else ((s - 2 : Nat) : Int) / 8) = (n : Int) := by split <;> omega
  go_upto_region 4 with fail
  try simp only [hq4]
  clear hq1 hq2 hq3 hq4 hsn
  refine Ord.tb_start [2, 4, 6, 8] (by kernel_rfl) ?_
  have hbd : Below w.heap.size w w.drew := below_drewN (Below.refl _ _) 1
  have hsd := hbd.size
  generalize w.drew = w0 at *
  refine Ord.tb_pre [0, 1, 3, 5, 7] [_, _, _, _, _] (k := 8) (by kernel_rfl) rfl rfl (by kernel_rfl) ?_
  go_wp2_with fail
  refine Ord.nx_tb (Ord.tb_each [2, 4, 6, 8] (by kernel_rfl) (by simp) fun mm hmm => ?_)
  simp only [List.mem_cons, List.not_mem_nil, or_false] at hmm
  rcases hmm with rfl | rfl | rfl | rfl
  · refine ⟨_, rfl, ?_⟩
    go_wp2_with fail
    have hb0 : Below w0.heap.size w0 (w0.alloc (.cells (Array.replicate n (Value.slice none 0 0)) 38)) := below_al' _
    have hkB := Blk.new w0 38 (Array.replicate n (Value.slice none 0 0))
    have hs0 : Hid ((w0.alloc (.cells (Array.replicate n (Value.slice none 0 0)) 38)).heap.size = w0.heap.size + 1) := Lib.hid (by simp)
    generalize w0.alloc (.cells (Array.replicate n (Value.slice none 0 0)) 38) = w1 at *
    refine Ord.nx_tb2 (by assumption) (Ord.tb_each [4, 6, 8] (by kernel_rfl) (by simp) fun mm hmm => ?_)
    simp only [List.mem_cons, List.not_mem_nil, or_false] at hmm
    rcases hmm with rfl | rfl | rfl
    · refine ⟨_, rfl, ?_⟩
      go_wp2_with fail
      have hb1 : Below w1.heap.size w1 (w1.alloc (.cells (Array.replicate n (Value.bool false)) 4)) := below_al' _
      have hkU := Blk.new w1 4 (Array.replicate n (Value.bool false))
      have hs1 : Hid ((w1.alloc (.cells (Array.replicate n (Value.bool false)) 4)).heap.size = w1.heap.size + 1) := Lib.hid (by simp)
      replace hkB := hkB.below_ hb1
      generalize w1.alloc (.cells (Array.replicate n (Value.bool false)) 4) = w2 at *
      refine Ord.nx_tb2 (by assumption) (Ord.tb_each [6, 8] (by kernel_rfl) (by simp) fun mm hmm => ?_)
      simp only [List.mem_cons, List.not_mem_nil, or_false] at hmm
      rcases hmm with rfl | rfl
      · refine ⟨_, rfl, ?_⟩
        go_wp2_with fail
        have hb2 : Below w2.heap.size w2 (w2.alloc (.cells (Array.replicate n (Value.bool false)) 4)) := below_al' _
        have hkV := Blk.new w2 4 (Array.replicate n (Value.bool false))
        have hs2 : Hid ((w2.alloc (.cells (Array.replicate n (Value.bool false)) 4)).heap.size = w2.heap.size + 1) := Lib.hid (by simp)
        replace hkB := hkB.below_ hb2
        replace hkU := hkU.below_ hb2
        generalize w2.alloc (.cells (Array.replicate n (Value.bool false)) 4) = w3 at *
        refine Ord.nx_tb2 (by assumption) (Ord.tb_each [8] (by kernel_rfl) (by simp) fun mm hmm => ?_)
        simp only [List.mem_cons, List.not_mem_nil, or_false] at hmm
        subst hmm
        refine ⟨_, rfl, ?_⟩
        go_wp2_with fail
        have hb3 : Below w3.heap.size w3 (w3.alloc (.cells (Array.replicate n (Value.slice none 0 0)) 38)) := below_al' _
        have hkC := Blk.new w3 38 (Array.replicate n (Value.slice none 0 0))
        have hs3 : Hid ((w3.alloc (.cells (Array.replicate n (Value.slice none 0 0)) 38)).heap.size = w3.heap.size + 1) := Lib.hid (by simp)
        replace hkB := hkB.below_ hb3
        replace hkU := hkU.below_ hb3
        replace hkV := hkV.below_ hb3
        generalize w3.alloc (.cells (Array.replicate n (Value.slice none 0 0)) 38) = w4 at *
        refine Ord.nx_tb2 (by assumption) (Ord.tb_ords [9, 10, 11, 12] (by kernel_rfl) rfl (by kernel_rfl) (Ord.ord_all [_, _, _, _] rfl (by kernel_rfl) ?_))
        go_wp2_with fail
        refine Ord.nx_end ?_
        go_wp2_with fail
        go_ret2
        have e0 := hs0.out
        have e1 := hs1.out
        have e2 := hs2.out
        refine ⟨_, rfl, new_made hbd hb0 hb1 hb2 hb3 hkB hkU hkV hkC (by omega) (by omega) (by omega) (by omega) (by omega) (by omega) hn1 hn⟩
      · refine ⟨_, rfl, ?_⟩
        go_wp2_with fail
        have hb2 : Below w2.heap.size w2 (w2.alloc (.cells (Array.replicate n (Value.slice none 0 0)) 38)) := below_al' _
        have hkC := Blk.new w2 38 (Array.replicate n (Value.slice none 0 0))
        have hs2 : Hid ((w2.alloc (.cells (Array.replicate n (Value.slice none 0 0)) 38)).heap.size = w2.heap.size + 1) := Lib.hid (by simp)
        replace hkB := hkB.below_ hb2
        replace hkU := hkU.below_ hb2
        generalize w2.alloc (.cells (Array.replicate n (Value.slice none 0 0)) 38) = w3 at *
        refine Ord.nx_tb2 (by assumption) (Ord.tb_each [6] (by kernel_rfl) (by simp) fun mm hmm => ?_)
        simp only [List.mem_cons, List.not_mem_nil, or_false] at hmm
        subst hmm
        refine ⟨_, rfl, ?_⟩
        go_wp2_with fail
        have hb3 : Below w3.heap.size w3 (w3.alloc (.cells (Array.replicate n (Value.bool false)) 4)) := below_al' _
        have hkV := Blk.new w3 4 (Array.replicate n (Value.bool false))
        have hs3 : Hid ((w3.alloc (.cells (Array.replicate n (Value.bool false)) 4)).heap.size = w3.heap.size + 1) := Lib.hid (by simp)
        replace hkB := hkB.below_ hb3
        replace hkU := hkU.below_ hb3
        replace hkC := hkC.below_ hb3
        generalize w3.alloc (.cells (Array.replicate n (Value.bool false)) 4) = w4 at *
        refine Ord.nx_tb2 (by assumption) (Ord.tb_ords [9, 10, 11, 12] (by kernel_rfl) rfl (by kernel_rfl) (Ord.ord_all [_, _, _, _] rfl (by kernel_rfl) ?_))
        go_wp2_with fail
        refine Ord.nx_end ?_
        go_wp2_with fail
        go_ret2
        have e0 := hs0.out
        have e1 := hs1.out
        have e2 := hs2.out
        refine ⟨_, rfl, new_made hbd hb0 hb1 hb2 hb3 hkB hkU hkV hkC (by omega) (by omega) (by omega) (by omega) (by omega) (by omega) hn1 hn⟩
    · refine ⟨_, rfl, ?_⟩
      go_wp2_with fail
      have hb1 : Below w1.heap.size w1 (w1.alloc (.cells (Array.replicate n (Value.bool false)) 4)) := below_al' _
      have hkV := Blk.new w1 4 (Array.replicate n (Value.bool false))
      have hs1 : Hid ((w1.alloc (.cells (Array.replicate n (Value.bool false)) 4)).heap.size = w1.heap.size + 1) := Lib.hid (by simp)
      replace hkB := hkB.below_ hb1
      generalize w1.alloc (.cells (Array.replicate n (Value.bool false)) 4) = w2 at *
      refine Ord.nx_tb2 (by assumption) (Ord.tb_each [4, 8] (by kernel_rfl) (by simp) fun mm hmm => ?_)
      simp only [List.mem_cons, List.not_mem_nil, or_false] at hmm
      rcases hmm with rfl | rfl
      · refine ⟨_, rfl, ?_⟩
        go_wp2_with fail
        have hb2 : Below w2.heap.size w2 (w2.alloc (.cells (Array.replicate n (Value.bool false)) 4)) := below_al' _
        have hkU := Blk.new w2 4 (Array.replicate n (Value.bool false))
        have hs2 : Hid ((w2.alloc (.cells (Array.replicate n (Value.bool false)) 4)).heap.size = w2.heap.size + 1) := Lib.hid (by simp)
        replace hkB := hkB.below_ hb2
        replace hkV := hkV.below_ hb2
        generalize w2.alloc (.cells (Array.replicate n (Value.bool false)) 4) = w3 at *
        refine Ord.nx_tb2 (by assumption) (Ord.tb_each [8] (by kernel_rfl) (by simp) fun mm hmm => ?_)
        simp only [List.mem_cons, List.not_mem_nil, or_false] at hmm
        subst hmm
        refine ⟨_, rfl, ?_⟩
        go_wp2_with fail
        have hb3 : Below w3.heap.size w3 (w3.alloc (.cells (Array.replicate n (Value.slice none 0 0)) 38)) := below_al' _
        have hkC := Blk.new w3 38 (Array.replicate n (Value.slice none 0 0))
        have hs3 : Hid ((w3.alloc (.cells (Array.replicate n (Value.slice none 0 0)) 38)).heap.size = w3.heap.size + 1) := Lib.hid (by simp)
        replace hkB := hkB.below_ hb3
        replace hkV := hkV.below_ hb3
        replace hkU := hkU.below_ hb3
        generalize w3.alloc (.cells (Array.replicate n (Value.slice none 0 0)) 38) = w4 at *
        refine Ord.nx_tb2 (by assumption) (Ord.tb_ords [9, 10, 11, 12] (by kernel_rfl) rfl (by kernel_rfl) (Ord.ord_all [_, _, _, _] rfl (by kernel_rfl) ?_))
        go_wp2_with fail
        refine Ord.nx_end ?_
        go_wp2_with fail
        go_ret2
        have e0 := hs0.out
        have e1 := hs1.out
        have e2 := hs2.out
        refine ⟨_, rfl, new_made hbd hb0 hb1 hb2 hb3 hkB hkU hkV hkC (by omega) (by omega) (by omega) (by omega) (by omega) (by omega) hn1 hn⟩
      · refine ⟨_, rfl, ?_⟩
        go_wp2_with fail
        have hb2 : Below w2.heap.size w2 (w2.alloc (.cells (Array.replicate n (Value.slice none 0 0)) 38)) := below_al' _
        have hkC := Blk.new w2 38 (Array.replicate n (Value.slice none 0 0))
        have hs2 : Hid ((w2.alloc (.cells (Array.replicate n (Value.slice none 0 0)) 38)).heap.size = w2.heap.size + 1) := Lib.hid (by simp)
        replace hkB := hkB.below_ hb2
        replace hkV := hkV.below_ hb2
        generalize w2.alloc (.cells (Array.replicate n (Value.slice none 0 0)) 38) = w3 at *
        refine Ord.nx_tb2 (by assumption) (Ord.tb_each [4] (by kernel_rfl) (by simp) fun mm hmm => ?_)
        simp only [List.mem_cons, List.not_mem_nil, or_false] at hmm
        subst hmm
        refine ⟨_, rfl, ?_⟩
        go_wp2_with fail
        have hb3 : Below w3.heap.size w3 (w3.alloc (.cells (Array.replicate n (Value.bool false)) 4)) := below_al' _
        have hkU := Blk.new w3 4 (Array.replicate n (Value.bool false))
        have hs3 : Hid ((w3.alloc (.cells (Array.replicate n (Value.bool false)) 4)).heap.size = w3.heap.size + 1) := Lib.hid (by simp)
        replace hkB := hkB.below_ hb3
        replace hkV := hkV.below_ hb3
        replace hkC := hkC.below_ hb3
        generalize w3.alloc (.cells (Array.replicate n (Value.bool false)) 4) = w4 at *
        refine Ord.nx_tb2 (by assumption) (Ord.tb_ords [9, 10, 11, 12] (by kernel_rfl) rfl (by kernel_rfl) (Ord.ord_all [_, _, _, _] rfl (by kernel_rfl) ?_))
        go_wp2_with fail
        refine Ord.nx_end ?_
        go_wp2_with fail
        go_ret2
        have e0 := hs0.out
        have e1 := hs1.out
        have e2 := hs2.out
        refine ⟨_, rfl, new_made hbd hb0 hb1 hb2 hb3 hkB hkU hkV hkC (by omega) (by omega) (by omega) (by omega) (by omega) (by omega) hn1 hn⟩
    · refine ⟨_, rfl, ?_⟩
      go_wp2_with fail
      have hb1 : Below w1.heap.size w1 (w1.alloc (.cells (Array.replicate n (Value.slice none 0 0)) 38)) := below_al' _
      have hkC := Blk.new w1 38 (Array.replicate n (Value.slice none 0 0))
      have hs1 : Hid ((w1.alloc (.cells (Array.replicate n (Value.slice none 0 0)) 38)).heap.size = w1.heap.size + 1) := Lib.hid (by simp)
      replace hkB := hkB.below_ hb1
      generalize w1.alloc (.cells (Array.replicate n (Value.slice none 0 0)) 38) = w2 at *
      refine Ord.nx_tb2 (by assumption) (Ord.tb_each [4, 6] (by kernel_rfl) (by simp) fun mm hmm => ?_)
      simp only [List.mem_cons, List.not_mem_nil, or_false] at hmm
      rcases hmm with rfl | rfl
      · refine ⟨_, rfl, ?_⟩
        go_wp2_with fail
        have hb2 : Below w2.heap.size w2 (w2.alloc (.cells (Array.replicate n (Value.bool false)) 4)) := below_al' _
        have hkU := Blk.new w2 4 (Array.replicate n (Value.bool false))
        have hs2 : Hid ((w2.alloc (.cells (Array.replicate n (Value.bool false)) 4)).heap.size = w2.heap.size + 1) := Lib.hid (by simp)
        replace hkB := hkB.below_ hb2
        replace hkC := hkC.below_ hb2
        generalize w2.alloc (.cells (Array.replicate n (Value.bool false)) 4) = w3 at *
        refine Ord.nx_tb2 (by assumption) (Ord.tb_each [6] (by kernel_rfl) (by simp) fun mm hmm => ?_)
        simp only [List.mem_cons, List.not_mem_nil, or_false] at hmm
        subst hmm
        refine ⟨_, rfl, ?_⟩
        go_wp2_with fail
        have hb3 : Below w3.heap.size w3 (w3.alloc (.cells (Array.replicate n (Value.bool false)) 4)) := below_al' _
        have hkV := Blk.new w3 4 (Array.replicate n (Value.bool false))
        have hs3 : Hid ((w3.alloc (.cells (Array.replicate n (Value.bool false)) 4)).heap.size = w3.heap.size + 1) := Lib.hid (by simp)
        replace hkB := hkB.below_ hb3
        replace hkC := hkC.below_ hb3
        replace hkU := hkU.below_ hb3
        generalize w3.alloc (.cells (Array.replicate n (Value.bool false)) 4) = w4 at *
        refine Ord.nx_tb2 (by assumption) (Ord.tb_ords [9, 10, 11, 12] (by kernel_rfl) rfl (by kernel_rfl) (Ord.ord_all [_, _, _, _] rfl (by kernel_rfl) ?_))
        go_wp2_with fail
        refine Ord.nx_end ?_
        go_wp2_with fail
        go_ret2
        have e0 := hs0.out
        have e1 := hs1.out
        have e2 := hs2.out
        refine ⟨_, rfl, new_made hbd hb0 hb1 hb2 hb3 hkB hkU hkV hkC (by omega) (by omega) (by omega) (by omega) (by omega) (by omega) hn1 hn⟩
      · refine ⟨_, rfl, ?_⟩
        go_wp2_with fail
        have hb2 : Below w2.heap.size w2 (w2.alloc (.cells (Array.replicate n (Value.bool false)) 4)) := below_al' _
        have hkV := Blk.new w2 4 (Array.replicate n (Value.bool false))
        have hs2 : Hid ((w2.alloc (.cells (Array.replicate n (Value.bool false)) 4)).heap.size = w2.heap.size + 1) := Lib.hid (by simp)
        replace hkB := hkB.below_ hb2
        replace hkC := hkC.below_ hb2
        generalize w2.alloc (.cells (Array.replicate n (Value.bool false)) 4) = w3 at *
        refine Ord.nx_tb2 (by assumption) (Ord.tb_each [4] (by kernel_rfl) (by simp) fun mm hmm => ?_)
        simp only [List.mem_cons, List.not_mem_nil, or_false] at hmm
        subst hmm
        refine ⟨_, rfl, ?_⟩
        go_wp2_with fail
        have hb3 : Below w3.heap.size w3 (w3.alloc (.cells (Array.replicate n (Value.bool false)) 4)) := below_al' _
        have hkU := Blk.new w3 4 (Array.replicate n (Value.bool false))
        have hs3 : Hid ((w3.alloc (.cells (Array.replicate n (Value.bool false)) 4)).heap.size = w3.heap.size + 1) := Lib.hid (by simp)
        replace hkB := hkB.below_ hb3
        replace hkC := hkC.below_ hb3
        replace hkV := hkV.below_ hb3
        generalize w3.alloc (.cells (Array.replicate n (Value.bool false)) 4) = w4 at *
        refine Ord.nx_tb2 (by assumption) (Ord.tb_ords [9, 10, 11, 12] (by kernel_rfl) rfl (by kernel_rfl) (Ord.ord_all [_, _, _, _] rfl (by kernel_rfl) ?_))
        go_wp2_with fail
        refine Ord.nx_end ?_
        go_wp2_with fail
        go_ret2
        have e0 := hs0.out
        have e1 := hs1.out
        have e2 := hs2.out
        refine ⟨_, rfl, new_made hbd hb0 hb1 hb2 hb3 hkB hkU hkV hkC (by omega) (by omega) (by omega) (by omega) (by omega) (by omega) hn1 hn⟩
  · refine ⟨_, rfl, ?_⟩
    go_wp2_with fail
    have hb0 : Below w0.heap.size w0 (w0.alloc (.cells (Array.replicate n (Value.bool false)) 4)) := below_al' _
    have hkU := Blk.new w0 4 (Array.replicate n (Value.bool false))
    have hs0 : Hid ((w0.alloc (.cells (Array.replicate n (Value.bool false)) 4)).heap.size = w0.heap.size + 1) := Lib.hid (by simp)
    generalize w0.alloc (.cells (Array.replicate n (Value.bool false)) 4) = w1 at *
    refine Ord.nx_tb2 (by assumption) (Ord.tb_each [2, 6, 8] (by kernel_rfl) (by simp) fun mm hmm => ?_)
    simp only [List.mem_cons, List.not_mem_nil, or_false] at hmm
    rcases hmm with rfl | rfl | rfl
    · refine ⟨_, rfl, ?_⟩
      go_wp2_with fail
      have hb1 : Below w1.heap.size w1 (w1.alloc (.cells (Array.replicate n (Value.slice none 0 0)) 38)) := below_al' _
      have hkB := Blk.new w1 38 (Array.replicate n (Value.slice none 0 0))
      have hs1 : Hid ((w1.alloc (.cells (Array.replicate n (Value.slice none 0 0)) 38)).heap.size = w1.heap.size + 1) := Lib.hid (by simp)
      replace hkU := hkU.below_ hb1
      generalize w1.alloc (.cells (Array.replicate n (Value.slice none 0 0)) 38) = w2 at *
      refine Ord.nx_tb2 (by assumption) (Ord.tb_each [6, 8] (by kernel_rfl) (by simp) fun mm hmm => ?_)
      simp only [List.mem_cons, List.not_mem_nil, or_false] at hmm
      rcases hmm with rfl | rfl
      · refine ⟨_, rfl, ?_⟩
        go_wp2_with fail
        have hb2 : Below w2.heap.size w2 (w2.alloc (.cells (Array.replicate n (Value.bool false)) 4)) := below_al' _
        have hkV := Blk.new w2 4 (Array.replicate n (Value.bool false))
        have hs2 : Hid ((w2.alloc (.cells (Array.replicate n (Value.bool false)) 4)).heap.size = w2.heap.size + 1) := Lib.hid (by simp)
        replace hkU := hkU.below_ hb2
        replace hkB := hkB.below_ hb2
        generalize w2.alloc (.cells (Array.replicate n (Value.bool false)) 4) = w3 at *
        refine Ord.nx_tb2 (by assumption) (Ord.tb_each [8] (by kernel_rfl) (by simp) fun mm hmm => ?_)
        simp only [List.mem_cons, List.not_mem_nil, or_false] at hmm
        subst hmm
        refine ⟨_, rfl, ?_⟩
        go_wp2_with fail
        have hb3 : Below w3.heap.size w3 (w3.alloc (.cells (Array.replicate n (Value.slice none 0 0)) 38)) := below_al' _
        have hkC := Blk.new w3 38 (Array.replicate n (Value.slice none 0 0))
        have hs3 : Hid ((w3.alloc (.cells (Array.replicate n (Value.slice none 0 0)) 38)).heap.size = w3.heap.size + 1) := Lib.hid (by simp)
        replace hkU := hkU.below_ hb3
        replace hkB := hkB.below_ hb3
        replace hkV := hkV.below_ hb3
        generalize w3.alloc (.cells (Array.replicate n (Value.slice none 0 0)) 38) = w4 at *
        refine Ord.nx_tb2 (by assumption) (Ord.tb_ords [9, 10, 11, 12] (by kernel_rfl) rfl (by kernel_rfl) (Ord.ord_all [_, _, _, _] rfl (by kernel_rfl) ?_))
        go_wp2_with fail
        refine Ord.nx_end ?_
        go_wp2_with fail
        go_ret2
        have e0 := hs0.out
        have e1 := hs1.out
        have e2 := hs2.out
        refine ⟨_, rfl, new_made hbd hb0 hb1 hb2 hb3 hkB hkU hkV hkC (by omega) (by omega) (by omega) (by omega) (by omega) (by omega) hn1 hn⟩
      · refine ⟨_, rfl, ?_⟩
        go_wp2_with fail
        have hb2 : Below w2.heap.size w2 (w2.alloc (.cells (Array.replicate n (Value.slice none 0 0)) 38)) := below_al' _
        have hkC := Blk.new w2 38 (Array.replicate n (Value.slice none 0 0))
        have hs2 : Hid ((w2.alloc (.cells (Array.replicate n (Value.slice none 0 0)) 38)).heap.size = w2.heap.size + 1) := Lib.hid (by simp)
        replace hkU := hkU.below_ hb2
        replace hkB := hkB.below_ hb2
        generalize w2.alloc (.cells (Array.replicate n (Value.slice none 0 0)) 38) = w3 at *
        refine Ord.nx_tb2 (by assumption) (Ord.tb_each [6] (by kernel_rfl) (by simp) fun mm hmm => ?_)
        simp only [List.mem_cons, List.not_mem_nil, or_false] at hmm
        subst hmm
        refine ⟨_, rfl, ?_⟩
        go_wp2_with fail
        have hb3 : Below w3.heap.size w3 (w3.alloc (.cells (Array.replicate n (Value.bool false)) 4)) := below_al' _
        have hkV := Blk.new w3 4 (Array.replicate n (Value.bool false))
        have hs3 : Hid ((w3.alloc (.cells (Array.replicate n (Value.bool false)) 4)).heap.size = w3.heap.size + 1) := Lib.hid (by simp)
        replace hkU := hkU.below_ hb3
        replace hkB := hkB.below_ hb3
        replace hkC := hkC.below_ hb3
        generalize w3.alloc (.cells (Array.replicate n (Value.bool false)) 4) = w4 at *
        refine Ord.nx_tb2 (by assumption) (Ord.tb_ords [9, 10, 11, 12] (by kernel_rfl) rfl (by kernel_rfl) (Ord.ord_all [_, _, _, _] rfl (by kernel_rfl) ?_))
        go_wp2_with fail
        refine Ord.nx_end ?_
        go_wp2_with fail
        go_ret2
        have e0 := hs0.out
        have e1 := hs1.out
        have e2 := hs2.out
        refine ⟨_, rfl, new_made hbd hb0 hb1 hb2 hb3 hkB hkU hkV hkC (by omega) (by omega) (by omega) (by omega) (by omega) (by omega) hn1 hn⟩
    · refine ⟨_, rfl, ?_⟩
      go_wp2_with fail
      have hb1 : Below w1.heap.size w1 (w1.alloc (.cells (Array.replicate n (Value.bool false)) 4)) := below_al' _
      have hkV := Blk.new w1 4 (Array.replicate n (Value.bool false))
      have hs1 : Hid ((w1.alloc (.cells (Array.replicate n (Value.bool false)) 4)).heap.size = w1.heap.size + 1) := Lib.hid (by simp)
      replace hkU := hkU.below_ hb1
      generalize w1.alloc (.cells (Array.replicate n (Value.bool false)) 4) = w2 at *
      refine Ord.nx_tb2 (by assumption) (Ord.tb_each [2, 8] (by kernel_rfl) (by simp) fun mm hmm => ?_)
      simp only [List.mem_cons, List.not_mem_nil, or_false] at hmm
      rcases hmm with rfl | rfl
      · refine ⟨_, rfl, ?_⟩
        go_wp2_with fail
        have hb2 : Below w2.heap.size w2 (w2.alloc (.cells (Array.replicate n (Value.slice none 0 0)) 38)) := below_al' _
        have hkB := Blk.new w2 38 (Array.replicate n (Value.slice none 0 0))
        have hs2 : Hid ((w2.alloc (.cells (Array.replicate n (Value.slice none 0 0)) 38)).heap.size = w2.heap.size + 1) := Lib.hid (by simp)
        replace hkU := hkU.below_ hb2
        replace hkV := hkV.below_ hb2
        generalize w2.alloc (.cells (Array.replicate n (Value.slice none 0 0)) 38) = w3 at *
        refine Ord.nx_tb2 (by assumption) (Ord.tb_each [8] (by kernel_rfl) (by simp) fun mm hmm => ?_)
        simp only [List.mem_cons, List.not_mem_nil, or_false] at hmm
        subst hmm
        refine ⟨_, rfl, ?_⟩
        go_wp2_with fail
        have hb3 : Below w3.heap.size w3 (w3.alloc (.cells (Array.replicate n (Value.slice none 0 0)) 38)) := below_al' _
        have hkC := Blk.new w3 38 (Array.replicate n (Value.slice none 0 0))
        have hs3 : Hid ((w3.alloc (.cells (Array.replicate n (Value.slice none 0 0)) 38)).heap.size = w3.heap.size + 1) := Lib.hid (by simp)
        replace hkU := hkU.below_ hb3
        replace hkV := hkV.below_ hb3
        replace hkB := hkB.below_ hb3
        generalize w3.alloc (.cells (Array.replicate n (Value.slice none 0 0)) 38) = w4 at *
        refine Ord.nx_tb2 (by assumption) (Ord.tb_ords [9, 10, 11, 12] (by kernel_rfl) rfl (by kernel_rfl) (Ord.ord_all [_, _, _, _] rfl (by kernel_rfl) ?_))
        go_wp2_with fail
        refine Ord.nx_end ?_
        go_wp2_with fail
        go_ret2
        have e0 := hs0.out
        have e1 := hs1.out
        have e2 := hs2.out
        refine ⟨_, rfl, new_made hbd hb0 hb1 hb2 hb3 hkB hkU hkV hkC (by omega) (by omega) (by omega) (by omega) (by omega) (by omega) hn1 hn⟩
      · refine ⟨_, rfl, ?_⟩
        go_wp2_with fail
        have hb2 : Below w2.heap.size w2 (w2.alloc (.cells (Array.replicate n (Value.slice none 0 0)) 38)) := below_al' _
        have hkC := Blk.new w2 38 (Array.replicate n (Value.slice none 0 0))
        have hs2 : Hid ((w2.alloc (.cells (Array.replicate n (Value.slice none 0 0)) 38)).heap.size = w2.heap.size + 1) := Lib.hid (by simp)
        replace hkU := hkU.below_ hb2
        replace hkV := hkV.below_ hb2
        generalize w2.alloc (.cells (Array.replicate n (Value.slice none 0 0)) 38) = w3 at *
        refine Ord.nx_tb2 (by assumption) (Ord.tb_each [2] (by kernel_rfl) (by simp) fun mm hmm => ?_)
        simp only [List.mem_cons, List.not_mem_nil, or_false] at hmm
        subst hmm
        refine ⟨_, rfl, ?_⟩
        go_wp2_with fail
        have hb3 : Below w3.heap.size w3 (w3.alloc (.cells (Array.replicate n (Value.slice none 0 0)) 38)) := below_al' _
        have hkB := Blk.new w3 38 (Array.replicate n (Value.slice none 0 0))
        have hs3 : Hid ((w3.alloc (.cells (Array.replicate n (Value.slice none 0 0)) 38)).heap.size = w3.heap.size + 1) := Lib.hid (by simp)
        replace hkU := hkU.below_ hb3
        replace hkV := hkV.below_ hb3
        replace hkC := hkC.below_ hb3
        generalize w3.alloc (.cells (Array.replicate n (Value.slice none 0 0)) 38) = w4 at *
        refine Ord.nx_tb2 (by assumption) (Ord.tb_ords [9, 10, 11, 12] (by kernel_rfl) rfl (by kernel_rfl) (Ord.ord_all [_, _, _, _] rfl (by kernel_rfl) ?_))
        go_wp2_with fail
        refine Ord.nx_end ?_
        go_wp2_with fail
        go_ret2
        have e0 := hs0.out
        have e1 := hs1.out
        have e2 := hs2.out
        refine ⟨_, rfl, new_made hbd hb0 hb1 hb2 hb3 hkB hkU hkV hkC (by omega) (by omega) (by omega) (by omega) (by omega) (by omega) hn1 hn⟩
    · refine ⟨_, rfl, ?_⟩
      go_wp2_with fail
      have hb1 : Below w1.heap.size w1 (w1.alloc (.cells (Array.replicate n (Value.slice none 0 0)) 38)) := below_al' _
      have hkC := Blk.new w1 38 (Array.replicate n (Value.slice none 0 0))
      have hs1 : Hid ((w1.alloc (.cells (Array.replicate n (Value.slice none 0 0)) 38)).heap.size = w1.heap.size + 1) := Lib.hid (by simp)
      replace hkU := hkU.below_ hb1
      generalize w1.alloc (.cells (Array.replicate n (Value.slice none 0 0)) 38) = w2 at *
      refine Ord.nx_tb2 (by assumption) (Ord.tb_each [2, 6] (by kernel_rfl) (by simp) fun mm hmm => ?_)
      simp only [List.mem_cons, List.not_mem_nil, or_false] at hmm
      rcases hmm with rfl | rfl
      · refine ⟨_, rfl, ?_⟩
        go_wp2_with fail
        have hb2 : Below w2.heap.size w2 (w2.alloc (.cells (Array.replicate n (Value.slice none 0 0)) 38)) := below_al' _
        have hkB := Blk.new w2 38 (Array.replicate n (Value.slice none 0 0))
        have hs2 : Hid ((w2.alloc (.cells (Array.replicate n (Value.slice none 0 0)) 38)).heap.size = w2.heap.size + 1) := Lib.hid (by simp)
        replace hkU := hkU.below_ hb2
        replace hkC := hkC.below_ hb2
        generalize w2.alloc (.cells (Array.replicate n (Value.slice none 0 0)) 38) = w3 at *
        refine Ord.nx_tb2 (by assumption) (Ord.tb_each [6] (by kernel_rfl) (by simp) fun mm hmm => ?_)
        simp only [List.mem_cons, List.not_mem_nil, or_false] at hmm
        subst hmm
        refine ⟨_, rfl, ?_⟩
        go_wp2_with fail
        have hb3 : Below w3.heap.size w3 (w3.alloc (.cells (Array.replicate n (Value.bool false)) 4)) := below_al' _
        have hkV := Blk.new w3 4 (Array.replicate n (Value.bool false))
        have hs3 : Hid ((w3.alloc (.cells (Array.replicate n (Value.bool false)) 4)).heap.size = w3.heap.size + 1) := Lib.hid (by simp)
        replace hkU := hkU.below_ hb3
        replace hkC := hkC.below_ hb3
        replace hkB := hkB.below_ hb3
        generalize w3.alloc (.cells (Array.replicate n (Value.bool false)) 4) = w4 at *
        refine Ord.nx_tb2 (by assumption) (Ord.tb_ords [9, 10, 11, 12] (by kernel_rfl) rfl (by kernel_rfl) (Ord.ord_all [_, _, _, _] rfl (by kernel_rfl) ?_))
        go_wp2_with fail
        refine Ord.nx_end ?_
        go_wp2_with fail
        go_ret2
        have e0 := hs0.out
        have e1 := hs1.out
        have e2 := hs2.out
        refine ⟨_, rfl, new_made hbd hb0 hb1 hb2 hb3 hkB hkU hkV hkC (by omega) (by omega) (by omega) (by omega) (by omega) (by omega) hn1 hn⟩
      · refine ⟨_, rfl, ?_⟩
        go_wp2_with fail
        have hb2 : Below w2.heap.size w2 (w2.alloc (.cells (Array.replicate n (Value.bool false)) 4)) := below_al' _
        have hkV := Blk.new w2 4 (Array.replicate n (Value.bool false))
        have hs2 : Hid ((w2.alloc (.cells (Array.replicate n (Value.bool false)) 4)).heap.size = w2.heap.size + 1) := Lib.hid (by simp)
        replace hkU := hkU.below_ hb2
        replace hkC := hkC.below_ hb2
        generalize w2.alloc (.cells (Array.replicate n (Value.bool false)) 4) = w3 at *
        refine Ord.nx_tb2 (by assumption) (Ord.tb_each [2] (by kernel_rfl) (by simp) fun mm hmm => ?_)
        simp only [List.mem_cons, List.not_mem_nil, or_false] at hmm
        subst hmm
        refine ⟨_, rfl, ?_⟩
        go_wp2_with fail
        have hb3 : Below w3.heap.size w3 (w3.alloc (.cells (Array.replicate n (Value.slice none 0 0)) 38)) := below_al' _
        have hkB := Blk.new w3 38 (Array.replicate n (Value.slice none 0 0))
        have hs3 : Hid ((w3.alloc (.cells (Array.replicate n (Value.slice none 0 0)) 38)).heap.size = w3.heap.size + 1) := Lib.hid (by simp)
        replace hkU := hkU.below_ hb3
        replace hkC := hkC.below_ hb3
        replace hkV := hkV.below_ hb3
        generalize w3.alloc (.cells (Array.replicate n (Value.slice none 0 0)) 38) = w4 at *
        refine Ord.nx_tb2 (by assumption) (Ord.tb_ords [9, 10, 11, 12] (by kernel_rfl) rfl (by kernel_rfl) (Ord.ord_all [_, _, _, _] rfl (by kernel_rfl) ?_))
        go_wp2_with fail
        refine Ord.nx_end ?_
        go_wp2_with fail
        go_ret2
        have e0 := hs0.out
        have e1 := hs1.out
        have e2 := hs2.out
        refine ⟨_, rfl, new_made hbd hb0 hb1 hb2 hb3 hkB hkU hkV hkC (by omega) (by omega) (by omega) (by omega) (by omega) (by omega) hn1 hn⟩
  · refine ⟨_, rfl, ?_⟩
    go_wp2_with fail
    have hb0 : Below w0.heap.size w0 (w0.alloc (.cells (Array.replicate n (Value.bool false)) 4)) := below_al' _
    have hkV := Blk.new w0 4 (Array.replicate n (Value.bool false))
    have hs0 : Hid ((w0.alloc (.cells (Array.replicate n (Value.bool false)) 4)).heap.size = w0.heap.size + 1) := Lib.hid (by simp)
    generalize w0.alloc (.cells (Array.replicate n (Value.bool false)) 4) = w1 at *
    refine Ord.nx_tb2 (by assumption) (Ord.tb_each [2, 4, 8] (by kernel_rfl) (by simp) fun mm hmm => ?_)
    simp only [List.mem_cons, List.not_mem_nil, or_false] at hmm
    rcases hmm with rfl | rfl | rfl
    · refine ⟨_, rfl, ?_⟩
      go_wp2_with fail
      have hb1 : Below w1.heap.size w1 (w1.alloc (.cells (Array.replicate n (Value.slice none 0 0)) 38)) := below_al' _
      have hkB := Blk.new w1 38 (Array.replicate n (Value.slice none 0 0))
      have hs1 : Hid ((w1.alloc (.cells (Array.replicate n (Value.slice none 0 0)) 38)).heap.size = w1.heap.size + 1) := Lib.hid (by simp)
      replace hkV := hkV.below_ hb1
      generalize w1.alloc (.cells (Array.replicate n (Value.slice none 0 0)) 38) = w2 at *
      refine Ord.nx_tb2 (by assumption) (Ord.tb_each [4, 8] (by kernel_rfl) (by simp) fun mm hmm => ?_)
      simp only [List.mem_cons, List.not_mem_nil, or_false] at hmm
      rcases hmm with rfl | rfl
      · refine ⟨_, rfl, ?_⟩
        go_wp2_with fail
        have hb2 : Below w2.heap.size w2 (w2.alloc (.cells (Array.replicate n (Value.bool false)) 4)) := below_al' _
        have hkU := Blk.new w2 4 (Array.replicate n (Value.bool false))
        have hs2 : Hid ((w2.alloc (.cells (Array.replicate n (Value.bool false)) 4)).heap.size = w2.heap.size + 1) := Lib.hid (by simp)
        replace hkV := hkV.below_ hb2
        replace hkB := hkB.below_ hb2
        generalize w2.alloc (.cells (Array.replicate n (Value.bool false)) 4) = w3 at *
        refine Ord.nx_tb2 (by assumption) (Ord.tb_each [8] (by kernel_rfl) (by simp) fun mm hmm => ?_)
        simp only [List.mem_cons, List.not_mem_nil, or_false] at hmm
        subst hmm
        refine ⟨_, rfl, ?_⟩
        go_wp2_with fail
        have hb3 : Below w3.heap.size w3 (w3.alloc (.cells (Array.replicate n (Value.slice none 0 0)) 38)) := below_al' _
        have hkC := Blk.new w3 38 (Array.replicate n (Value.slice none 0 0))
        have hs3 : Hid ((w3.alloc (.cells (Array.replicate n (Value.slice none 0 0)) 38)).heap.size = w3.heap.size + 1) := Lib.hid (by simp)
        replace hkV := hkV.below_ hb3
        replace hkB := hkB.below_ hb3
        replace hkU := hkU.below_ hb3
        generalize w3.alloc (.cells (Array.replicate n (Value.slice none 0 0)) 38) = w4 at *
        refine Ord.nx_tb2 (by assumption) (Ord.tb_ords [9, 10, 11, 12] (by kernel_rfl) rfl (by kernel_rfl) (Ord.ord_all [_, _, _, _] rfl (by kernel_rfl) ?_))
        go_wp2_with fail
        refine Ord.nx_end ?_
        go_wp2_with fail
        go_ret2
        have e0 := hs0.out
        have e1 := hs1.out
        have e2 := hs2.out
        refine ⟨_, rfl, new_made hbd hb0 hb1 hb2 hb3 hkB hkU hkV hkC (by omega) (by omega) (by omega) (by omega) (by omega) (by omega) hn1 hn⟩
      · refine ⟨_, rfl, ?_⟩
        go_wp2_with fail
        have hb2 : Below w2.heap.size w2 (w2.alloc (.cells (Array.replicate n (Value.slice none 0 0)) 38)) := below_al' _
        have hkC := Blk.new w2 38 (Array.replicate n (Value.slice none 0 0))
        have hs2 : Hid ((w2.alloc (.cells (Array.replicate n (Value.slice none 0 0)) 38)).heap.size = w2.heap.size + 1) := Lib.hid (by simp)
        replace hkV := hkV.below_ hb2
        replace hkB := hkB.below_ hb2
        generalize w2.alloc (.cells (Array.replicate n (Value.slice none 0 0)) 38) = w3 at *
        refine Ord.nx_tb2 (by assumption) (Ord.tb_each [4] (by kernel_rfl) (by simp) fun mm hmm => ?_)
        simp only [List.mem_cons, List.not_mem_nil, or_false] at hmm
        subst hmm
        refine ⟨_, rfl, ?_⟩
        go_wp2_with fail
        have hb3 : Below w3.heap.size w3 (w3.alloc (.cells (Array.replicate n (Value.bool false)) 4)) := below_al' _
        have hkU := Blk.new w3 4 (Array.replicate n (Value.bool false))
        have hs3 : Hid ((w3.alloc (.cells (Array.replicate n (Value.bool false)) 4)).heap.size = w3.heap.size + 1) := Lib.hid (by simp)
        replace hkV := hkV.below_ hb3
        replace hkB := hkB.below_ hb3
        replace hkC := hkC.below_ hb3
        generalize w3.alloc (.cells (Array.replicate n (Value.bool false)) 4) = w4 at *
        refine Ord.nx_tb2 (by assumption) (Ord.tb_ords [9, 10, 11, 12] (by kernel_rfl) rfl (by kernel_rfl) (Ord.ord_all [_, _, _, _] rfl (by kernel_rfl) ?_))
        go_wp2_with fail
        refine Ord.nx_end ?_
        go_wp2_with fail
        go_ret2
        have e0 := hs0.out
        have e1 := hs1.out
        have e2 := hs2.out
        refine ⟨_, rfl, new_made hbd hb0 hb1 hb2 hb3 hkB hkU hkV hkC (by omega) (by omega) (by omega) (by omega) (by omega) (by omega) hn1 hn⟩
    · refine ⟨_, rfl, ?_⟩
      go_wp2_with fail
      have hb1 : Below w1.heap.size w1 (w1.alloc (.cells (Array.replicate n (Value.bool false)) 4)) := below_al' _
      have hkU := Blk.new w1 4 (Array.replicate n (Value.bool false))
      have hs1 : Hid ((w1.alloc (.cells (Array.replicate n (Value.bool false)) 4)).heap.size = w1.heap.size + 1) := Lib.hid (by simp)
      replace hkV := hkV.below_ hb1
      generalize w1.alloc (.cells (Array.replicate n (Value.bool false)) 4) = w2 at *
      refine Ord.nx_tb2 (by assumption) (Ord.tb_each [2, 8] (by kernel_rfl) (by simp) fun mm hmm => ?_)
      simp only [List.mem_cons, List.not_mem_nil, or_false] at hmm
      rcases hmm with rfl | rfl
      · refine ⟨_, rfl, ?_⟩
        go_wp2_with fail
        have hb2 : Below w2.heap.size w2 (w2.alloc (.cells (Array.replicate n (Value.slice none 0 0)) 38)) := below_al' _
        have hkB := Blk.new w2 38 (Array.replicate n (Value.slice none 0 0))
        have hs2 : Hid ((w2.alloc (.cells (Array.replicate n (Value.slice none 0 0)) 38)).heap.size = w2.heap.size + 1) := Lib.hid (by simp)
        replace hkV := hkV.below_ hb2
        replace hkU := hkU.below_ hb2
        generalize w2.alloc (.cells (Array.replicate n (Value.slice none 0 0)) 38) = w3 at *
        refine Ord.nx_tb2 (by assumption) (Ord.tb_each [8] (by kernel_rfl) (by simp) fun mm hmm => ?_)
        simp only [List.mem_cons, List.not_mem_nil, or_false] at hmm
        subst hmm
        refine ⟨_, rfl, ?_⟩
        go_wp2_with fail
        have hb3 : Below w3.heap.size w3 (w3.alloc (.cells (Array.replicate n (Value.slice none 0 0)) 38)) := below_al' _
        have hkC := Blk.new w3 38 (Array.replicate n (Value.slice none 0 0))
        have hs3 : Hid ((w3.alloc (.cells (Array.replicate n (Value.slice none 0 0)) 38)).heap.size = w3.heap.size + 1) := Lib.hid (by simp)
        replace hkV := hkV.below_ hb3
        replace hkU := hkU.below_ hb3
        replace hkB := hkB.below_ hb3
        generalize w3.alloc (.cells (Array.replicate n (Value.slice none 0 0)) 38) = w4 at *
        refine Ord.nx_tb2 (by assumption) (Ord.tb_ords [9, 10, 11, 12] (by kernel_rfl) rfl (by kernel_rfl) (Ord.ord_all [_, _, _, _] rfl (by kernel_rfl) ?_))
        go_wp2_with fail
        refine Ord.nx_end ?_
        go_wp2_with fail
        go_ret2
        have e0 := hs0.out
        have e1 := hs1.out
        have e2 := hs2.out
        refine ⟨_, rfl, new_made hbd hb0 hb1 hb2 hb3 hkB hkU hkV hkC (by omega) (by omega) (by omega) (by omega) (by omega) (by omega) hn1 hn⟩
      · refine ⟨_, rfl, ?_⟩
        go_wp2_with fail
        have hb2 : Below w2.heap.size w2 (w2.alloc (.cells (Array.replicate n (Value.slice none 0 0)) 38)) := below_al' _
        have hkC := Blk.new w2 38 (Array.replicate n (Value.slice none 0 0))
        have hs2 : Hid ((w2.alloc (.cells (Array.replicate n (Value.slice none 0 0)) 38)).heap.size = w2.heap.size + 1) := Lib.hid (by simp)
        replace hkV := hkV.below_ hb2
        replace hkU := hkU.below_ hb2
        generalize w2.alloc (.cells (Array.replicate n (Value.slice none 0 0)) 38) = w3 at *
        refine Ord.nx_tb2 (by assumption) (Ord.tb_each [2] (by kernel_rfl) (by simp) fun mm hmm => ?_)
        simp only [List.mem_cons, List.not_mem_nil, or_false] at hmm
        subst hmm
        refine ⟨_, rfl, ?_⟩
        go_wp2_with fail
        have hb3 : Below w3.heap.size w3 (w3.alloc (.cells (Array.replicate n (Value.slice none 0 0)) 38)) := below_al' _
        have hkB := Blk.new w3 38 (Array.replicate n (Value.slice none 0 0))
        have hs3 : Hid ((w3.alloc (.cells (Array.replicate n (Value.slice none 0 0)) 38)).heap.size = w3.heap.size + 1) := Lib.hid (by simp)
        replace hkV := hkV.below_ hb3
        replace hkU := hkU.below_ hb3
        replace hkC := hkC.below_ hb3
        generalize w3.alloc (.cells (Array.replicate n (Value.slice none 0 0)) 38) = w4 at *
        refine Ord.nx_tb2 (by assumption) (Ord.tb_ords [9, 10, 11, 12] (by kernel_rfl) rfl (by kernel_rfl) (Ord.ord_all [_, _, _, _] rfl (by kernel_rfl) ?_))
        go_wp2_with fail
        refine Ord.nx_end ?_
        go_wp2_with fail
        go_ret2
        have e0 := hs0.out
        have e1 := hs1.out
        have e2 := hs2.out
        refine ⟨_, rfl, new_made hbd hb0 hb1 hb2 hb3 hkB hkU hkV hkC (by omega) (by omega) (by omega) (by omega) (by omega) (by omega) hn1 hn⟩
    · refine ⟨_, rfl, ?_⟩
      go_wp2_with fail
      have hb1 : Below w1.heap.size w1 (w1.alloc (.cells (Array.replicate n (Value.slice none 0 0)) 38)) := below_al' _
      have hkC := Blk.new w1 38 (Array.replicate n (Value.slice none 0 0))
      have hs1 : Hid ((w1.alloc (.cells (Array.replicate n (Value.slice none 0 0)) 38)).heap.size = w1.heap.size + 1) := Lib.hid (by simp)
      replace hkV := hkV.below_ hb1
      generalize w1.alloc (.cells (Array.replicate n (Value.slice none 0 0)) 38) = w2 at *
      refine Ord.nx_tb2 (by assumption) (Ord.tb_each [2, 4] (by kernel_rfl) (by simp) fun mm hmm => ?_)
      simp only [List.mem_cons, List.not_mem_nil, or_false] at hmm
      rcases hmm with rfl | rfl
      · refine ⟨_, rfl, ?_⟩
        go_wp2_with fail
        have hb2 : Below w2.heap.size w2 (w2.alloc (.cells (Array.replicate n (Value.slice none 0 0)) 38)) := below_al' _
        have hkB := Blk.new w2 38 (Array.replicate n (Value.slice none 0 0))
        have hs2 : Hid ((w2.alloc (.cells (Array.replicate n (Value.slice none 0 0)) 38)).heap.size = w2.heap.size + 1) := Lib.hid (by simp)
        replace hkV := hkV.below_ hb2
        replace hkC := hkC.below_ hb2
        generalize w2.alloc (.cells (Array.replicate n (Value.slice none 0 0)) 38) = w3 at *
        refine Ord.nx_tb2 (by assumption) (Ord.tb_each [4] (by kernel_rfl) (by simp) fun mm hmm => ?_)
        simp only [List.mem_cons, List.not_mem_nil, or_false] at hmm
        subst hmm
        refine ⟨_, rfl, ?_⟩
        go_wp2_with fail
        have hb3 : Below w3.heap.size w3 (w3.alloc (.cells (Array.replicate n (Value.bool false)) 4)) := below_al' _
        have hkU := Blk.new w3 4 (Array.replicate n (Value.bool false))
        have hs3 : Hid ((w3.alloc (.cells (Array.replicate n (Value.bool false)) 4)).heap.size = w3.heap.size + 1) := Lib.hid (by simp)
        replace hkV := hkV.below_ hb3
        replace hkC := hkC.below_ hb3
        replace hkB := hkB.below_ hb3
        generalize w3.alloc (.cells (Array.replicate n (Value.bool false)) 4) = w4 at *
        refine Ord.nx_tb2 (by assumption) (Ord.tb_ords [9, 10, 11, 12] (by kernel_rfl) rfl (by kernel_rfl) (Ord.ord_all [_, _, _, _] rfl (by kernel_rfl) ?_))
        go_wp2_with fail
        refine Ord.nx_end ?_
        go_wp2_with fail
        go_ret2
        have e0 := hs0.out
        have e1 := hs1.out
        have e2 := hs2.out
        refine ⟨_, rfl, new_made hbd hb0 hb1 hb2 hb3 hkB hkU hkV hkC (by omega) (by omega) (by omega) (by omega) (by omega) (by omega) hn1 hn⟩
      · refine ⟨_, rfl, ?_⟩
        go_wp2_with fail
        have hb2 : Below w2.heap.size w2 (w2.alloc (.cells (Array.replicate n (Value.bool false)) 4)) := below_al' _
        have hkU := Blk.new w2 4 (Array.replicate n (Value.bool false))
        have hs2 : Hid ((w2.alloc (.cells (Array.replicate n (Value.bool false)) 4)).heap.size = w2.heap.size + 1) := Lib.hid (by simp)
        replace hkV := hkV.below_ hb2
        replace hkC := hkC.below_ hb2
        generalize w2.alloc (.cells (Array.replicate n (Value.bool false)) 4) = w3 at *
        refine Ord.nx_tb2 (by assumption) (Ord.tb_each [2] (by kernel_rfl) (by simp) fun mm hmm => ?_)
        simp only [List.mem_cons, List.not_mem_nil, or_false] at hmm
        subst hmm
        refine ⟨_, rfl, ?_⟩
        go_wp2_with fail
        have hb3 : Below w3.heap.size w3 (w3.alloc (.cells (Array.replicate n (Value.slice none 0 0)) 38)) := below_al' _
        have hkB := Blk.new w3 38 (Array.replicate n (Value.slice none 0 0))
        have hs3 : Hid ((w3.alloc (.cells (Array.replicate n (Value.slice none 0 0)) 38)).heap.size = w3.heap.size + 1) := Lib.hid (by simp)
        replace hkV := hkV.below_ hb3
        replace hkC := hkC.below_ hb3
        replace hkU := hkU.below_ hb3
        generalize w3.alloc (.cells (Array.replicate n (Value.slice none 0 0)) 38) = w4 at *
        refine Ord.nx_tb2 (by assumption) (Ord.tb_ords [9, 10, 11, 12] (by kernel_rfl) rfl (by kernel_rfl) (Ord.ord_all [_, _, _, _] rfl (by kernel_rfl) ?_))
        go_wp2_with fail
        refine Ord.nx_end ?_
        go_wp2_with fail
        go_ret2
        have e0 := hs0.out
        have e1 := hs1.out
        have e2 := hs2.out
        refine ⟨_, rfl, new_made hbd hb0 hb1 hb2 hb3 hkB hkU hkV hkC (by omega) (by omega) (by omega) (by omega) (by omega) (by omega) hn1 hn⟩
  · refine ⟨_, rfl, ?_⟩
    go_wp2_with fail
    have hb0 : Below w0.heap.size w0 (w0.alloc (.cells (Array.replicate n (Value.slice none 0 0)) 38)) := below_al' _
    have hkC := Blk.new w0 38 (Array.replicate n (Value.slice none 0 0))
    have hs0 : Hid ((w0.alloc (.cells (Array.replicate n (Value.slice none 0 0)) 38)).heap.size = w0.heap.size + 1) := Lib.hid (by simp)
    generalize w0.alloc (.cells (Array.replicate n (Value.slice none 0 0)) 38) = w1 at *
    refine Ord.nx_tb2 (by assumption) (Ord.tb_each [2, 4, 6] (by kernel_rfl) (by simp) fun mm hmm => ?_)
    simp only [List.mem_cons, List.not_mem_nil, or_false] at hmm
    rcases hmm with rfl | rfl | rfl
    · refine ⟨_, rfl, ?_⟩
      go_wp2_with fail
      have hb1 : Below w1.heap.size w1 (w1.alloc (.cells (Array.replicate n (Value.slice none 0 0)) 38)) := below_al' _
      have hkB := Blk.new w1 38 (Array.replicate n (Value.slice none 0 0))
      have hs1 : Hid ((w1.alloc (.cells (Array.replicate n (Value.slice none 0 0)) 38)).heap.size = w1.heap.size + 1) := Lib.hid (by simp)
      replace hkC := hkC.below_ hb1
      generalize w1.alloc (.cells (Array.replicate n (Value.slice none 0 0)) 38) = w2 at *
      refine Ord.nx_tb2 (by assumption) (Ord.tb_each [4, 6] (by kernel_rfl) (by simp) fun mm hmm => ?_)
      simp only [List.mem_cons, List.not_mem_nil, or_false] at hmm
      rcases hmm with rfl | rfl
      · refine ⟨_, rfl, ?_⟩
        go_wp2_with fail
        have hb2 : Below w2.heap.size w2 (w2.alloc (.cells (Array.replicate n (Value.bool false)) 4)) := below_al' _
        have hkU := Blk.new w2 4 (Array.replicate n (Value.bool false))
        have hs2 : Hid ((w2.alloc (.cells (Array.replicate n (Value.bool false)) 4)).heap.size = w2.heap.size + 1) := Lib.hid (by simp)
        replace hkC := hkC.below_ hb2
        replace hkB := hkB.below_ hb2
        generalize w2.alloc (.cells (Array.replicate n (Value.bool false)) 4) = w3 at *
        refine Ord.nx_tb2 (by assumption) (Ord.tb_each [6] (by kernel_rfl) (by simp) fun mm hmm => ?_)
        simp only [List.mem_cons, List.not_mem_nil, or_false] at hmm
        subst hmm
        refine ⟨_, rfl, ?_⟩
        go_wp2_with fail
        have hb3 : Below w3.heap.size w3 (w3.alloc (.cells (Array.replicate n (Value.bool false)) 4)) := below_al' _
        have hkV := Blk.new w3 4 (Array.replicate n (Value.bool false))
        have hs3 : Hid ((w3.alloc (.cells (Array.replicate n (Value.bool false)) 4)).heap.size = w3.heap.size + 1) := Lib.hid (by simp)
        replace hkC := hkC.below_ hb3
        replace hkB := hkB.below_ hb3
        replace hkU := hkU.below_ hb3
        generalize w3.alloc (.cells (Array.replicate n (Value.bool false)) 4) = w4 at *
        refine Ord.nx_tb2 (by assumption) (Ord.tb_ords [9, 10, 11, 12] (by kernel_rfl) rfl (by kernel_rfl) (Ord.ord_all [_, _, _, _] rfl (by kernel_rfl) ?_))
        go_wp2_with fail
        refine Ord.nx_end ?_
        go_wp2_with fail
        go_ret2
        have e0 := hs0.out
        have e1 := hs1.out
        have e2 := hs2.out
        refine ⟨_, rfl, new_made hbd hb0 hb1 hb2 hb3 hkB hkU hkV hkC (by omega) (by omega) (by omega) (by omega) (by omega) (by omega) hn1 hn⟩
      · refine ⟨_, rfl, ?_⟩
        go_wp2_with fail
        have hb2 : Below w2.heap.size w2 (w2.alloc (.cells (Array.replicate n (Value.bool false)) 4)) := below_al' _
        have hkV := Blk.new w2 4 (Array.replicate n (Value.bool false))
        have hs2 : Hid ((w2.alloc (.cells (Array.replicate n (Value.bool false)) 4)).heap.size = w2.heap.size + 1) := Lib.hid (by simp)
        replace hkC := hkC.below_ hb2
        replace hkB := hkB.below_ hb2
        generalize w2.alloc (.cells (Array.replicate n (Value.bool false)) 4) = w3 at *
        refine Ord.nx_tb2 (by assumption) (Ord.tb_each [4] (by kernel_rfl) (by simp) fun mm hmm => ?_)
        simp only [List.mem_cons, List.not_mem_nil, or_false] at hmm
        subst hmm
        refine ⟨_, rfl, ?_⟩
        go_wp2_with fail
        have hb3 : Below w3.heap.size w3 (w3.alloc (.cells (Array.replicate n (Value.bool false)) 4)) := below_al' _
        have hkU := Blk.new w3 4 (Array.replicate n (Value.bool false))
        have hs3 : Hid ((w3.alloc (.cells (Array.replicate n (Value.bool false)) 4)).heap.size = w3.heap.size + 1) := Lib.hid (by simp)
        replace hkC := hkC.below_ hb3
        replace hkB := hkB.below_ hb3
        replace hkV := hkV.below_ hb3
        generalize w3.alloc (.cells (Array.replicate n (Value.bool false)) 4) = w4 at *
        refine Ord.nx_tb2 (by assumption) (Ord.tb_ords [9, 10, 11, 12] (by kernel_rfl) rfl (by kernel_rfl) (Ord.ord_all [_, _, _, _] rfl (by kernel_rfl) ?_))
        go_wp2_with fail
        refine Ord.nx_end ?_
        go_wp2_with fail
        go_ret2
        have e0 := hs0.out
        have e1 := hs1.out
        have e2 := hs2.out
        refine ⟨_, rfl, new_made hbd hb0 hb1 hb2 hb3 hkB hkU hkV hkC (by omega) (by omega) (by omega) (by omega) (by omega) (by omega) hn1 hn⟩
    · refine ⟨_, rfl, ?_⟩
      go_wp2_with fail
      have hb1 : Below w1.heap.size w1 (w1.alloc (.cells (Array.replicate n (Value.bool false)) 4)) := below_al' _
      have hkU := Blk.new w1 4 (Array.replicate n (Value.bool false))
      have hs1 : Hid ((w1.alloc (.cells (Array.replicate n (Value.bool false)) 4)).heap.size = w1.heap.size + 1) := Lib.hid (by simp)
      replace hkC := hkC.below_ hb1
      generalize w1.alloc (.cells (Array.replicate n (Value.bool false)) 4) = w2 at *
      refine Ord.nx_tb2 (by assumption) (Ord.tb_each [2, 6] (by kernel_rfl) (by simp) fun mm hmm => ?_)
      simp only [List.mem_cons, List.not_mem_nil, or_false] at hmm
      rcases hmm with rfl | rfl
      · refine ⟨_, rfl, ?_⟩
        go_wp2_with fail
        have hb2 : Below w2.heap.size w2 (w2.alloc (.cells (Array.replicate n (Value.slice none 0 0)) 38)) := below_al' _
        have hkB := Blk.new w2 38 (Array.replicate n (Value.slice none 0 0))
        have hs2 : Hid ((w2.alloc (.cells (Array.replicate n (Value.slice none 0 0)) 38)).heap.size = w2.heap.size + 1) := Lib.hid (by simp)
        replace hkC := hkC.below_ hb2
        replace hkU := hkU.below_ hb2
        generalize w2.alloc (.cells (Array.replicate n (Value.slice none 0 0)) 38) = w3 at *
        refine Ord.nx_tb2 (by assumption) (Ord.tb_each [6] (by kernel_rfl) (by simp) fun mm hmm => ?_)
        simp only [List.mem_cons, List.not_mem_nil, or_false] at hmm
        subst hmm
        refine ⟨_, rfl, ?_⟩
        go_wp2_with fail
        have hb3 : Below w3.heap.size w3 (w3.alloc (.cells (Array.replicate n (Value.bool false)) 4)) := below_al' _
        have hkV := Blk.new w3 4 (Array.replicate n (Value.bool false))
        have hs3 : Hid ((w3.alloc (.cells (Array.replicate n (Value.bool false)) 4)).heap.size = w3.heap.size + 1) := Lib.hid (by simp)
        replace hkC := hkC.below_ hb3
        replace hkU := hkU.below_ hb3
        replace hkB := hkB.below_ hb3
        generalize w3.alloc (.cells (Array.replicate n (Value.bool false)) 4) = w4 at *
        refine Ord.nx_tb2 (by assumption) (Ord.tb_ords [9, 10, 11, 12] (by kernel_rfl) rfl (by kernel_rfl) (Ord.ord_all [_, _, _, _] rfl (by kernel_rfl) ?_))
        go_wp2_with fail
        refine Ord.nx_end ?_
        go_wp2_with fail
        go_ret2
        have e0 := hs0.out
        have e1 := hs1.out
        have e2 := hs2.out
        refine ⟨_, rfl, new_made hbd hb0 hb1 hb2 hb3 hkB hkU hkV hkC (by omega) (by omega) (by omega) (by omega) (by omega) (by omega) hn1 hn⟩
      · refine ⟨_, rfl, ?_⟩
        go_wp2_with fail
        have hb2 : Below w2.heap.size w2 (w2.alloc (.cells (Array.replicate n (Value.bool false)) 4)) := below_al' _
        have hkV := Blk.new w2 4 (Array.replicate n (Value.bool false))
        have hs2 : Hid ((w2.alloc (.cells (Array.replicate n (Value.bool false)) 4)).heap.size = w2.heap.size + 1) := Lib.hid (by simp)
        replace hkC := hkC.below_ hb2
        replace hkU := hkU.below_ hb2
        generalize w2.alloc (.cells (Array.replicate n (Value.bool false)) 4) = w3 at *
        refine Ord.nx_tb2 (by assumption) (Ord.tb_each [2] (by kernel_rfl) (by simp) fun mm hmm => ?_)
        simp only [List.mem_cons, List.not_mem_nil, or_false] at hmm
        subst hmm
        refine ⟨_, rfl, ?_⟩
        go_wp2_with fail
        have hb3 : Below w3.heap.size w3 (w3.alloc (.cells (Array.replicate n (Value.slice none 0 0)) 38)) := below_al' _
        have hkB := Blk.new w3 38 (Array.replicate n (Value.slice none 0 0))
        have hs3 : Hid ((w3.alloc (.cells (Array.replicate n (Value.slice none 0 0)) 38)).heap.size = w3.heap.size + 1) := Lib.hid (by simp)
        replace hkC := hkC.below_ hb3
        replace hkU := hkU.below_ hb3
        replace hkV := hkV.below_ hb3
        generalize w3.alloc (.cells (Array.replicate n (Value.slice none 0 0)) 38) = w4 at *
        refine Ord.nx_tb2 (by assumption) (Ord.tb_ords [9, 10, 11, 12] (by kernel_rfl) rfl (by kernel_rfl) (Ord.ord_all [_, _, _, _] rfl (by kernel_rfl) ?_))
        go_wp2_with fail
        refine Ord.nx_end ?_
        go_wp2_with fail
        go_ret2
        have e0 := hs0.out
        have e1 := hs1.out
        have e2 := hs2.out
        refine ⟨_, rfl, new_made hbd hb0 hb1 hb2 hb3 hkB hkU hkV hkC (by omega) (by omega) (by omega) (by omega) (by omega) (by omega) hn1 hn⟩
    · refine ⟨_, rfl, ?_⟩
      go_wp2_with fail
      have hb1 : Below w1.heap.size w1 (w1.alloc (.cells (Array.replicate n (Value.bool false)) 4)) := below_al' _
      have hkV := Blk.new w1 4 (Array.replicate n (Value.bool false))
      have hs1 : Hid ((w1.alloc (.cells (Array.replicate n (Value.bool false)) 4)).heap.size = w1.heap.size + 1) := Lib.hid (by simp)
      replace hkC := hkC.below_ hb1
      generalize w1.alloc (.cells (Array.replicate n (Value.bool false)) 4) = w2 at *
      refine Ord.nx_tb2 (by assumption) (Ord.tb_each [2, 4] (by kernel_rfl) (by simp) fun mm hmm => ?_)
      simp only [List.mem_cons, List.not_mem_nil, or_false] at hmm
      rcases hmm with rfl | rfl
      · refine ⟨_, rfl, ?_⟩
        go_wp2_with fail
        have hb2 : Below w2.heap.size w2 (w2.alloc (.cells (Array.replicate n (Value.slice none 0 0)) 38)) := below_al' _
        have hkB := Blk.new w2 38 (Array.replicate n (Value.slice none 0 0))
        have hs2 : Hid ((w2.alloc (.cells (Array.replicate n (Value.slice none 0 0)) 38)).heap.size = w2.heap.size + 1) := Lib.hid (by simp)
        replace hkC := hkC.below_ hb2
        replace hkV := hkV.below_ hb2
        generalize w2.alloc (.cells (Array.replicate n (Value.slice none 0 0)) 38) = w3 at *
        refine Ord.nx_tb2 (by assumption) (Ord.tb_each [4] (by kernel_rfl) (by simp) fun mm hmm => ?_)
        simp only [List.mem_cons, List.not_mem_nil, or_false] at hmm
        subst hmm
        refine ⟨_, rfl, ?_⟩
        go_wp2_with fail
        have hb3 : Below w3.heap.size w3 (w3.alloc (.cells (Array.replicate n (Value.bool false)) 4)) := below_al' _
        have hkU := Blk.new w3 4 (Array.replicate n (Value.bool false))
        have hs3 : Hid ((w3.alloc (.cells (Array.replicate n (Value.bool false)) 4)).heap.size = w3.heap.size + 1) := Lib.hid (by simp)
        replace hkC := hkC.below_ hb3
        replace hkV := hkV.below_ hb3
        replace hkB := hkB.below_ hb3
        generalize w3.alloc (.cells (Array.replicate n (Value.bool false)) 4) = w4 at *
        refine Ord.nx_tb2 (by assumption) (Ord.tb_ords [9, 10, 11, 12] (by kernel_rfl) rfl (by kernel_rfl) (Ord.ord_all [_, _, _, _] rfl (by kernel_rfl) ?_))
        go_wp2_with fail
        refine Ord.nx_end ?_
        go_wp2_with fail
        go_ret2
        have e0 := hs0.out
        have e1 := hs1.out
        have e2 := hs2.out
        refine ⟨_, rfl, new_made hbd hb0 hb1 hb2 hb3 hkB hkU hkV hkC (by omega) (by omega) (by omega) (by omega) (by omega) (by omega) hn1 hn⟩
      · refine ⟨_, rfl, ?_⟩
        go_wp2_with fail
        have hb2 : Below w2.heap.size w2 (w2.alloc (.cells (Array.replicate n (Value.bool false)) 4)) := below_al' _
        have hkU := Blk.new w2 4 (Array.replicate n (Value.bool false))
        have hs2 : Hid ((w2.alloc (.cells (Array.replicate n (Value.bool false)) 4)).heap.size = w2.heap.size + 1) := Lib.hid (by simp)
        replace hkC := hkC.below_ hb2
        replace hkV := hkV.below_ hb2
        generalize w2.alloc (.cells (Array.replicate n (Value.bool false)) 4) = w3 at *
        refine Ord.nx_tb2 (by assumption) (Ord.tb_each [2] (by kernel_rfl) (by simp) fun mm hmm => ?_)
        simp only [List.mem_cons, List.not_mem_nil, or_false] at hmm
        subst hmm
        refine ⟨_, rfl, ?_⟩
        go_wp2_with fail
        have hb3 : Below w3.heap.size w3 (w3.alloc (.cells (Array.replicate n (Value.slice none 0 0)) 38)) := below_al' _
        have hkB := Blk.new w3 38 (Array.replicate n (Value.slice none 0 0))
        have hs3 : Hid ((w3.alloc (.cells (Array.replicate n (Value.slice none 0 0)) 38)).heap.size = w3.heap.size + 1) := Lib.hid (by simp)
        replace hkC := hkC.below_ hb3
        replace hkV := hkV.below_ hb3
        replace hkU := hkU.below_ hb3
        generalize w3.alloc (.cells (Array.replicate n (Value.slice none 0 0)) 38) = w4 at *
        refine Ord.nx_tb2 (by assumption) (Ord.tb_ords [9, 10, 11, 12] (by kernel_rfl) rfl (by kernel_rfl) (Ord.ord_all [_, _, _, _] rfl (by kernel_rfl) ?_))
        go_wp2_with fail
        refine Ord.nx_end ?_
        go_wp2_with fail
        go_ret2
        have e0 := hs0.out
        have e1 := hs1.out
        have e2 := hs2.out
        refine ⟨_, rfl, new_made hbd hb0 hb1 hb2 hb3 hkB hkU hkV hkC (by omega) (by omega) (by omega) (by omega) (by omega) (by omega) hn1 hn⟩
end Go.Proofs.YtookhagpgkefpaaDoor.Pag
