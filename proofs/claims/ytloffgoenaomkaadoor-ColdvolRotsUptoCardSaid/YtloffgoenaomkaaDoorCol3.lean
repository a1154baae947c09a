/- Layer 15 (coldvol): a block read that must have a tag. -/
import Derived.Test.YtloffgoenaomkaaDoorFold8
import Derived.Stop.BytesEq
import Derived.Deep.QuietTactic
namespace Go.Proofs.YtloffgoenaomkaaDoor.Col
open Go Go.RowKit Mem Pl Disk Crc _root_.Go.Proofs.YtloffgoenaomkaaDoor.Frame
theorem run_arrayTag (A : Option Addr) (n c : Nat) (h : 4 ≤ n) (W : World) : (Instr.arrayAt 97 (.slice A n c)).run Tryd.prog W = .ok (.pointer A) W := by
  have hn : ¬ n < 4 := by omega
  simp [Instr.arrayAt, run_underlying (show Tryd.prog.underlying 97 = some (.array 4 5) from Tryd.underlying97), hn]
theorem tagTy : Tryd.prog.underlying 97 = some (.array 4 5) := Tryd.underlying97
theorem neq_tag (a b : List UInt8) (ha : a.length = 4) (hb : b.length = 4) (w : World) : (binOp .neq 97 (.agg (cellsOf a)) (.agg (cellsOf b))).run Tryd.prog w = .ok (.bool (!(a == b))) w := by
  have hq : (Op.equalIn 10000 97 (.agg (a.map B8).toArray) (.agg (b.map B8).toArray)).run Tryd.prog w = .ok (a == b) w := run_equalIn_bytes w 9998 _ _ 4 tagTy Tryd.underlying5 (fun _ => by kernel_rfl) a b ha hb
  show (binOp .neq _ (.agg (a.map B8).toArray) (.agg (b.map B8).toArray)).run _ w = _
  rw [run_neq_struct, hq]
  rfl
theorem load_bytes {w : World} {g : Nat} {t : TypeId} {bs : List UInt8} (h : Blk w g t (cellsOf bs)) (k : Nat) (h4 : k + 4 ≤ bs.length) (N : Nat) : (loadVar 97 ⟨g, k, none⟩).run Tryd.prog (w.drewN N) = .ok (.agg (cellsOf ((bs.drop k).take 4))) (w.drewN N) := by
  have hr := blk_range (cs := bs.map B8) (h.drewN N) k (((bs.drop k).take 4).map B8) (fun j v hv => by
    have hj : j < 4 := by
      have := (List.getElem?_eq_some_iff.1 hv).1
      simp at this
      omega
    rw [List.getElem?_map, List.getElem?_take_of_lt hj, List.getElem?_drop] at hv
    rw [List.getElem?_map]
    exact hv)
  exact run_loadVar_mid (P := Tryd.prog) _ g k 97 _ _ hr tagTy rfl (by rw [tag_size]; simp; omega)
theorem _root_.Go.Proofs.YtloffgoenaomkaaDoor.Mem.BAt.cell63 {w : World} {g : Nat} {bs : List UInt8} (h : BAt w (some ⟨g, 0, none⟩) bs) (h4 : bs.length = 64) : w.cell? ⟨g, 63, none⟩ = some (.int .u8 (V8 (bs.getD 63 0))) := by
  obtain ⟨ad, e, hcell⟩ := h (by omega)
  cases e
  have := hcell 63 (by omega)
  rwa [add_off] at this
theorem load_bat {w : World} {g : Nat} {bs : List UInt8} (h : BAt w (some ⟨g, 0, none⟩) bs) (h4 : 4 ≤ bs.length) (N : Nat) : (loadVar 97 ⟨g, 0, none⟩).run Tryd.prog (w.drewN N) = .ok (.agg (cellsOf (bs.take 4))) (w.drewN N) := by
  obtain ⟨ad, e, hcell⟩ := h (by omega)
  cases e
  have hr : (w.drewN N).rangeAt g 0 ((bs.take 4).map B8) := fun j v hv => by
    have hj : j < 4 := by
      have := (List.getElem?_eq_some_iff.1 hv).1
      simp at this
      omega
    rw [List.getElem?_map, List.getElem?_take_of_lt hj] at hv
    have := hcell j (by omega)
    rw [add_off] at this
    show w.cell? ⟨g, 0 + j, none⟩ = _
    rw [this]
    cases hb : bs[j]? with
    | none => rw [hb] at hv; cases hv
    | some b =>
      rw [hb] at hv
      rw [List.getD_eq_getElem?_getD, hb]
      simpa [B8] using hv
  exact run_loadVar_mid (P := Tryd.prog) _ g 0 97 _ _ hr tagTy rfl (by rw [tag_size]; simp; omega)
/-- One operation of a quiet region that yields a known value. -/
theorem quiet_val {P : Program} {ops : Array Oper} {w : World} {Q : Act → Prop} {a : Act} {o : Oper} {rest : List Oper} (v : Value) (hw : Region.wanted o (yielded ops a.tmps) = true)
    (hv : ∀ n, (execOp a.eval o).run P (w.drewN n) = .ok (.value v) (w.drewN n)) (h : wpQuiet P ops (fun w' => ∃ n, w' = w.drewN n) Q rest (a.put o.dst v)) : wpQuiet P ops (fun w' => ∃ n, w' = w.drewN n) Q (o :: rest) a := by
  unfold wpQuiet
  rw [if_pos hw]
  refine ⟨v, ?_, h⟩
  rintro _ ⟨n, rfl⟩
  unfold Oper.quietAt
  rw [hv n]
  exact ⟨rfl, rfl⟩
theorem exec_load {P : Program} {w : World} {a : Act} {o : Oper} (t : TypeId) (x : Operand) (ho : o.op = .load t x) (p : Addr) (hx : a.eval x = .pointer (some p)) (v : Value) (h : (loadVar t p).run P w = .ok v w) : (execOp a.eval o).run P w = .ok (.value v) w := by
  unfold execOp
  simp only [ho, hx]
  simp [Instr.loadAt, Instr.sureAddr, h]
theorem exec_neq {P : Program} {w : World} {a : Act} {o : Oper} (t : TypeId) (x y : Operand) (ty : TypeId) (ho : o.op = .binOp .neq t x y ty) (xs ys : Array Value) (hx : a.eval x = .agg xs) (hy : a.eval y = .agg ys) (hg : P.eqGuardType P.depth t = false) (v : Value) (h : (binOp .neq t (.agg xs) (.agg ys)).run P w = .ok v w) : (execOp a.eval o).run P w = .ok (.value v) w := by
  unfold execOp
  simp only [ho, hx, hy, Sem.run_bind, run_eqGuard_agg w .neq t x y _ _ hg, Result.andThen_ok, h]
  rfl
set_option maxRecDepth 100000 in
set_option maxHeartbeats 4000000 in
theorem tread_on {B : Nat} {w : World} {F : Nat → Prop} {a : Nat} {pm : PM} {n dev N : Nat} {H ws : List (List UInt8)} (hst : St B w F a pm n) (ht : TapeP pm dev N H ws) (hn : n ≤ 1000000000) (hon : pm.off = false) (k : Nat) (c : List UInt8) (hk : (H ++ ws)[k]? = some c) (hc : c.length = 64)
    (want : List UInt8) (hwant : want.length = 4) (htab : Tab w) (hgc : 0 < w.heap.size) :
    Calls Tryd.prog 50 #[tapeV a dev, .int .i64 (k : Int), .agg (cellsOf want)] w fun e w' => Below w.heap.size w w' ∧
      ((∃ b g cap, readM c want = some b ∧ e = .returned (.tuple #[.slice (some ⟨g, 4, none⟩) 56 cap, .bool true, .int .i64 0]) ∧ 56 ≤ cap ∧ w.heap.size ≤ g ∧ BAt w' (some ⟨g, 4, none⟩) b ∧ b.length = 56) ∨
       (readM c want = none ∧ e = .returned (.tuple #[.slice none 0 0, .bool false, .int .i64 0]))) := by
  have hb1 := below_al' (w := w) (.cells #[.pointer (some ⟨a, 0, none⟩), .int .i64 (dev : Int)] 89)
  have hb2 := hb1.alloc (by simp : w.heap.size ≤ _) (.cells (cellsOf want) 97)
  have hk2 := Blk.new (w.alloc (.cells #[.pointer (some ⟨a, 0, none⟩), .int .i64 (dev : Int)] 89)) 97 (cellsOf want)
  have hrd := read_any (hst.below hb2).at_ hst.ok (hst.low hn) (dev : Int) (k : Int)
  rw [ht.read hon hk] at hrd
  have HRD := Lib.hid hrd
  have HB2 := Lib.hid hb2
  have HK2 := Lib.hid hk2
  have HT := Lib.hid htab
  have HC := Lib.hid hc
  have HW := Lib.hid hwant
  have hsz : (cellsOf want).size = 4 := by simp [cellsOf, hwant]
  clear hst ht hon hk hb1 hb2 hk2 hrd htab hc hwant hn
  show Calls Tryd.prog 50 #[.agg #[.pointer (some ⟨a, 0, none⟩), .int .i64 (dev : Int)], .int .i64 (k : Int), .agg (cellsOf want)] w _
  go_enter Tryd.func50, Tryd.ntmps50
  go_wp2_with fail
  refine HRD.out.mono ?_
  rintro e w1 ⟨A, m, cap, rfl, ho, hb⟩
  simp only [Option.getD_some] at ho
  obtain rfl : m = 64 := by rw [← ho.len]; exact HC.out
  obtain ⟨g, rfl, hg⟩ : ∃ g, A = some ⟨g, 0, none⟩ ∧ ((w.alloc (.cells #[.pointer (some ⟨a, 0, none⟩), .int .i64 (dev : Int)] 89)).alloc (.cells (cellsOf want) 97)).heap.size ≤ g := by
    rcases ho.form with ⟨_, h0, _⟩ | ⟨g, h1, h2, _⟩
    · omega
    · exact ⟨g, h1, h2⟩
  have hcap := ho.cap_le.1
  have HB1 := Lib.hid (HB2.out.trans (hb.mono HB2.out.size))
  have HKW := Lib.hid (HK2.out.below_ hb)
  have HG := Lib.hid (Nat.le_trans HB2.out.size hg)
  have HO := Lib.hid ho
  have HTK := Lib.hid (take_yes (some ⟨g, 60, none⟩) (c.drop 60) 4 (cap - 60) 3 w1 (by rw [List.length_drop, HC.out]) (by omega) (by omega) (ho.bat.drop 60) (by omega) (by omega) (by omega))
  have hc1 := fun W => run_cut_l (P := Tryd.prog) 38 5 Pl.byteTy (some ⟨g, 0, none⟩) 64 cap .i64 60 60 rfl (by decide) W
  have hc2 := fun W => run_cut_h (P := Tryd.prog) 38 5 Pl.byteTy (some ⟨g, 0, none⟩) 64 cap .i64 4 4 rfl (by omega) W
  have hc3 := fun W => run_cut_h (P := Tryd.prog) 38 5 Pl.byteTy (some ⟨g, 0, none⟩) 64 cap .i64 60 60 rfl (by omega) W
  have hc4 := fun W => run_cut_lh (P := Tryd.prog) 38 5 Pl.byteTy (some ⟨g, 0, none⟩) 64 cap .i64 .i64 4 60 4 60 rfl rfl (by omega) (by omega) W
  have n1 : ¬ (cap = 60) := by omega
  have n2 : ¬ (cap = 4) := by omega
  simp only [cutA, n1, n2, if_false, Option.map_some, add_off, Nat.zero_add] at hc1 hc4
  clear n1 n2 ho hb hg HRD HK2 HB2
  go_wp2_with fail
  refine HTK.out.mono ?_
  rintro e w2 ⟨A3, N3, c3, rfl, _, hb2⟩
  have HB2 := Lib.hid (HB1.out.trans (hb2.mono HB1.out.size))
  have HO2 := Lib.hid (HO.out.bat.below hb2)
  have hkw2 := HKW.out.below_ hb2
  have HTB := Lib.hid (HT.out.below HB2.out hgc)
  have hq : be (((c.drop 60).take 3)) < 16777216 := by have := be_lt ((c.drop 60).take 3); rw [List.length_take, List.length_drop, HC.out] at this; exact this
  obtain ⟨q, hqe⟩ : ∃ q, be (((c.drop 60).take 3)) = q := ⟨_, rfl⟩
  obtain ⟨S, hS⟩ : ∃ S, (more 0#32 (c.take 60)).toNat % 16777216 = S := ⟨_, rfl⟩
  obtain ⟨v, hv⟩ : ∃ v, V8 (c.getD 63 0) = v := ⟨_, rfl⟩
  have HM : Hid (readM c want = if c.take 4 = want ∧ q = S ∧ v = 165 then some ((c.drop 4).take 56) else none) := Lib.hid (by
    unfold readM
    rw [hqe, hS]
    have : (c.getD 63 0 = 165) ↔ v = 165 := by
      rw [← hv]
      exact (V8_inj (b := 165)).symm
    simp only [this])
  have hSl : S < 16777216 := by rw [← hS]; exact Nat.mod_lt _ (by decide)
  have hand := and_low (more 0#32 (c.take 60))
  rw [hS] at hand
  rw [hqe] at hq ⊢
  have h63 := HO2.out.cell63 HC.out
  rw [hv] at h63
  have hld1 := load_bat HO2.out (by rw [HC.out]; omega)
  have hld2 := load_bytes hkw2 0 (by have := HW.out; omega)
  have hwt : List.take 4 (List.drop 0 want) = want := by rw [List.drop_zero]; exact List.take_of_length_le (Nat.le_of_eq HW.out)
  rw [hwt] at hld2
  have hsz2 : (w.alloc (.cells #[.pointer (some ⟨a, 0, none⟩), .int .i64 (dev : Int)] 89)).heap.size = w.heap.size + 1 := by simp
  rw [hsz2] at hld2
  clear hsz2
  have hb4 := (HO2.out.drop 4).take 56
  rw [add_off] at hb4
  have HB4 := Lib.hid hb4
  clear hb4
  have hneq := neq_tag (c.take 4) want (by rw [List.length_take, HC.out]; rfl) HW.out
  have hwr : IntKind.u32.wrap (q : Int) = (q : Int) := by rw [IntKind.wrap_u32]; omega
  have HSM := Lib.hid fun N => sum_any (some ⟨g, 0, none⟩) (c.take 60) 60 cap (w2.drewN N) (by rw [List.length_take, HC.out]; rfl) (by omega) (HO2.out.take 60) HTB.out
  have harr := run_arrayTag (some ⟨g, 0, none⟩) 4 cap (by omega)
  clear hb2 hkw2 hqe hS hv hwt HTK HO HKW HB1
  by_cases h1 : c.take 4 = want
  · have e1 : (!(c.take 4 == want)) = false := by simpa using h1
    rw [e1] at hneq
    clear e1
    by_cases h2 : q = S
    · by_cases h3 : v = 165
      · have hr : readM c want = some ((c.drop 4).take 56) := by rw [HM.out, if_pos ⟨h1, h2, h3⟩]
        have HR := Lib.hid hr
        clear HM hr h1
        subst h2 h3
        go_wp2_with fail
        refine wp_region_quiet_lit (by kernel_rfl) (by kernel_rfl) ?_
        iterate 3 quiet_step (fail)
        refine quiet_val _ rfl (fun n => exec_load 97 (.tmp 35) rfl ⟨g, 0, none⟩ rfl _ (hld1 n)) ?_
        refine quiet_val _ rfl (fun n => exec_load 97 (.tmp 5) rfl ⟨w.heap.size + 1, 0, none⟩ rfl _ (hld2 n)) ?_
        refine quiet_val _ rfl (fun n => exec_neq 97 (.tmp 36) (.tmp 37) _ rfl _ _ rfl rfl (by kernel_rfl) _ (hneq (w2.drewN n))) ?_
        simp only [Act.put]
        repeat (quiet_step ((go_at_call 64; exact Calls.quiet_of_same ((HSM.out _).mono fun _ _ h => ⟨h.1, h.2.symm⟩))))
        refine wpQuiet_nil ?_
        intro _ hw'
        obtain ⟨nq, hw''⟩ := hw'
        subst hw''
        go_wp2_with fail
        go_ret3
        exact ⟨below_drewN HB2.out nq, .inl ⟨_, g, cap - 4, HR.out, rfl, by omega, HG.out, HB4.out, by simp [HC.out]⟩⟩
      · have hr : readM c want = none := by rw [HM.out, if_neg fun h => h3 h.2.2]
        have h3' : (v != 165) = true := by simpa using h3
        clear HM h1 h3
        subst h2
        go_wp2_with fail
        refine wp_region_quiet_lit (by kernel_rfl) (by kernel_rfl) ?_
        iterate 3 quiet_step (fail)
        refine quiet_val _ rfl (fun n => exec_load 97 (.tmp 35) rfl ⟨g, 0, none⟩ rfl _ (hld1 n)) ?_
        refine quiet_val _ rfl (fun n => exec_load 97 (.tmp 5) rfl ⟨w.heap.size + 1, 0, none⟩ rfl _ (hld2 n)) ?_
        refine quiet_val _ rfl (fun n => exec_neq 97 (.tmp 36) (.tmp 37) _ rfl _ _ rfl rfl (by kernel_rfl) _ (hneq (w2.drewN n))) ?_
        simp only [Act.put]
        repeat (quiet_step ((go_at_call 64; exact Calls.quiet_of_same ((HSM.out _).mono fun _ _ h => ⟨h.1, h.2.symm⟩))))
        refine wpQuiet_nil ?_
        intro _ hw'
        obtain ⟨nq, hw''⟩ := hw'
        subst hw''
        go_wp2_with fail
        go_ret3
        exact ⟨below_drewN HB2.out nq, .inr ⟨hr, rfl⟩⟩
    · have hr : readM c want = none := by rw [HM.out, if_neg fun h => h2 h.2.1]
      have h2' : ((q : Int) != (S : Int)) = true := by simpa using fun h => h2 (by omega)
      clear HM h1 h2
      go_wp2_with fail
      refine wp_region_quiet_lit (by kernel_rfl) (by kernel_rfl) ?_
      iterate 3 quiet_step (fail)
      refine quiet_val _ rfl (fun n => exec_load 97 (.tmp 35) rfl ⟨g, 0, none⟩ rfl _ (hld1 n)) ?_
      refine quiet_val _ rfl (fun n => exec_load 97 (.tmp 5) rfl ⟨w.heap.size + 1, 0, none⟩ rfl _ (hld2 n)) ?_
      refine quiet_val _ rfl (fun n => exec_neq 97 (.tmp 36) (.tmp 37) _ rfl _ _ rfl rfl (by kernel_rfl) _ (hneq (w2.drewN n))) ?_
      simp only [Act.put]
      repeat (quiet_step ((go_at_call 64; exact Calls.quiet_of_same ((HSM.out _).mono fun _ _ h => ⟨h.1, h.2.symm⟩))))
      refine wpQuiet_nil ?_
      intro _ hw'
      obtain ⟨nq, hw''⟩ := hw'
      subst hw''
      go_wp2_with fail
      go_ret3
      exact ⟨below_drewN HB2.out nq, .inr ⟨hr, rfl⟩⟩
  · have e1 : (!(c.take 4 == want)) = true := by simpa using h1
    rw [e1] at hneq
    have hr : readM c want = none := by rw [HM.out, if_neg fun h => h1 h.1]
    clear e1 HM h1
    go_wp2_with fail
    refine wp_region_quiet_lit (by kernel_rfl) (by kernel_rfl) ?_
    iterate 3 quiet_step (fail)
    refine quiet_val _ rfl (fun n => exec_load 97 (.tmp 35) rfl ⟨g, 0, none⟩ rfl _ (hld1 n)) ?_
    refine quiet_val _ rfl (fun n => exec_load 97 (.tmp 5) rfl ⟨w.heap.size + 1, 0, none⟩ rfl _ (hld2 n)) ?_
    refine quiet_val _ rfl (fun n => exec_neq 97 (.tmp 36) (.tmp 37) _ rfl _ _ rfl rfl (by kernel_rfl) _ (hneq (w2.drewN n))) ?_
    simp only [Act.put]
    repeat (quiet_step ((go_at_call 64; exact Calls.quiet_of_same ((HSM.out _).mono fun _ _ h => ⟨h.1, h.2.symm⟩))))
    refine wpQuiet_nil ?_
    intro _ hw'
    obtain ⟨nq, hw''⟩ := hw'
    subst hw''
    go_wp2_with fail
    go_ret3
    exact ⟨below_drewN HB2.out nq, .inr ⟨hr, rfl⟩⟩
end Go.Proofs.YtloffgoenaomkaaDoor.Col
