/- The journal in memory; its 'part': a sector read as a part of the transaction that is looked for. -/
import Derived.Test.YtlnfeehokpkgiaaDoorWalDec
namespace Go.Proofs.YtlnfeehokpkgiaaDoor.Wal
open Go Go.RowKit Mem Pl Disk Crc _root_.Go.Proofs.YtlnfeehokpkgiaaDoor.Frame
/-- A journal's own numbers. -/
structure WM where
  gen : Nat
  ep : Nat
  next : Nat
  num : Nat
def walCells (a dev N : Nat) (m : WM) : List Value := [.pointer (some ⟨a, 0, none⟩), .int .i64 (dev : Int), .int .i64 (N : Int), .int .u64 (m.gen : Int), .int .u64 (m.ep : Int), .int .i64 (m.next : Int), .int .u64 (m.num : Int)]
def WalB (w : World) (g a dev N : Nat) (m : WM) : Prop := Blk w g 91 (walCells a dev N m).toArray
theorem WalB.below {w w' : World} {g a dev N : Nat} {m : WM} (h : WalB w g a dev N m) (hb : Below w.heap.size w w') : WalB w' g a dev N m := Blk.below_ h hb
theorem WalB.cells {w : World} {g a dev N : Nat} {m : WM} (h : WalB w g a dev N m) : w.cell? ⟨g, 0, none⟩ = some (.pointer (some ⟨a, 0, none⟩)) ∧ w.cell? ⟨g, 1, none⟩ = some (.int .i64 (dev : Int)) ∧ w.cell? ⟨g, 2, none⟩ = some (.int .i64 (N : Int)) ∧
    w.cell? ⟨g, 3, none⟩ = some (.int .u64 (m.gen : Int)) ∧ w.cell? ⟨g, 4, none⟩ = some (.int .u64 (m.ep : Int)) ∧ w.cell? ⟨g, 5, none⟩ = some (.int .i64 (m.next : Int)) ∧ w.cell? ⟨g, 6, none⟩ = some (.int .u64 (m.num : Int)) := by
  have h' : Blk w g 91 (walCells a dev N m).toArray := h
  exact ⟨(h'.cell 0).trans rfl, (h'.cell 1).trans rfl, (h'.cell 2).trans rfl, (h'.cell 3).trans rfl, (h'.cell 4).trans rfl, (h'.cell 5).trans rfl, (h'.cell 6).trans rfl⟩
def partV (p : Part) (v : Value) : Value := .agg #[.int .u64 (p.sess : Int), .int .i64 (p.index : Int), .int .i64 (p.many : Int), v]
/-- What 'part' answers. -/
def RetPt (w : World) (o : Option Part) (e : Ending) (w' : World) : Prop :=
  Below w.heap.size w w' ∧
    ((o = none ∧ e = .returned (.tuple #[partV ⟨0, 0, 0, []⟩ (.slice none 0 0), .bool false, .int .i64 0])) ∨
     ∃ p A n, o = some p ∧ e = .returned (.tuple #[partV p (.slice A n n), .bool true, .int .i64 0]) ∧ p.b.length = n ∧ BAt w' A p.b)
def partAt (f : Nat → List UInt8) (N ep num k : Nat) : Option Part := if k < N then partM ep num (f k) else none
theorem run_part0 (w : World) : (Instr.build 121 #[]).run Tryd.prog w = .ok (partV ⟨0, 0, 0, []⟩ (.slice none 0 0)) w := by kernel_rfl
theorem part_one : ∀ v ∈ ([.int .u64 0, .int .i64 0, .int .i64 0, .slice none 0 0] : List Value), v.oneCell' = true := by
  intro v hv
  simp at hv
  rcases hv with rfl | rfl | rfl <;> rfl
theorem part_one2 (a b c : Int) (A : Option Addr) (n m : Nat) : ∀ v ∈ ([.int .u64 a, .int .i64 b, .int .i64 c, .slice A n m] : List Value), v.oneCell' = true := by
  intro v hv
  simp at hv
  rcases hv with rfl | rfl | rfl | rfl <;> rfl
theorem load_part {w : World} {g : Nat} {p : Part} {v : Value} (h : Blk w g 121 #[.int .u64 (p.sess : Int), .int .i64 (p.index : Int), .int .i64 (p.many : Int), v]) : (loadVar 121 ⟨g, 0, none⟩).run Tryd.prog w = .ok (partV p v) w :=
  run_loadVar_mid (P := Tryd.prog) w g 0 121 [.int .u64 (p.sess : Int), .int .i64 (p.index : Int), .int .i64 (p.many : Int), v] _ (blk_range (cs := [.int .u64 (p.sess : Int), .int .i64 (p.index : Int), .int .i64 (p.many : Int), v]) h 0 _ fun j u hu => by rw [Nat.zero_add]; exact hu) Tryd.underlying121 rfl (by kernel_rfl)
set_option maxRecDepth 100000 in
set_option maxHeartbeats 8000000 in
theorem part_on {B : Nat} {w : World} {F : Nat → Prop} {a : Nat} {pm : PM} {n dev N : Nat} {H : List (List UInt8)} {ws : Ws} {g : Nat} {m : WM} (hst : St B w F a pm n) (hd : Disk pm dev N H ws) (hn : n ≤ 1000000000) (hon : pm.off = false) (hw : WalB w g a dev N m) (k : Nat)
    (ht : Tab w) (hgc : 0 < w.heap.size) :
    Calls Tryd.prog 62 #[.pointer (some ⟨g, 0, none⟩), .int .i64 (k : Int)] w (RetPt w (partAt (virt H ws) N m.ep m.num k)) := by
  have hz := Blk.new w 121 #[.int .u64 0, .int .i64 0, .int .i64 0, .slice none 0 0]
  have hb0 := below_al' (w := w) (.cells #[.int .u64 0, .int .i64 0, .int .i64 0, .slice none 0 0] 121)
  obtain ⟨c0, c1, c2, c3, c4, c5, c6⟩ := (hw.below hb0).cells
  have hbld := run_part0
  by_cases hk : k < N
  · have hkI : ¬ (N : Int) ≤ (k : Int) := by omega
    have hpa : partAt (virt H ws) N m.ep m.num k = partM m.ep m.num (virt H ws k) := by unfold partAt; rw [if_pos hk]
    rw [hpa]
    have hbd := hb0.drew
    have HRD := Lib.hid (St.sector (hst.below hbd) hd hn hon k hk)
    have HL := Lib.hid (sec_len hd hst.ok k)
    have HT := Lib.hid (ht.below hbd hgc)
    obtain ⟨b, hb⟩ : ∃ b, virt H ws k = b := ⟨_, rfl⟩
    rw [hb] at HRD HL ⊢
    have HWB := Lib.hid (hw.below hbd)
    have HZ : Hid (Blk (w.alloc (.cells #[.int .u64 0, .int .i64 0, .int .i64 0, .slice none 0 0] 121)).drew w.heap.size 121 #[.int .u64 0, .int .i64 0, .int .i64 0, .slice none 0 0]) := Lib.hid hz
    have HB0 := Lib.hid hbd
    clear hst hd hon hw ht hz hb0 hbd hpa hb
    obtain ⟨ye, hye⟩ : ∃ x, be (b.take 4) = x := ⟨_, rfl⟩
    obtain ⟨ys, hys⟩ : ∃ x, be ((b.drop 4).take 4) = x := ⟨_, rfl⟩
    obtain ⟨yn, hyn⟩ : ∃ x, be ((b.drop 8).take 4) = x := ⟨_, rfl⟩
    obtain ⟨yc, hyc⟩ : ∃ x, be ((b.drop 12).take 4) = x := ⟨_, rfl⟩
    obtain ⟨i0, hi0⟩ : ∃ x, (b.getD 16 0).toNat = x := ⟨_, rfl⟩
    obtain ⟨m0, hm0⟩ : ∃ x, (b.getD 17 0).toNat = x := ⟨_, rfl⟩
    obtain ⟨z0, hz0⟩ : ∃ x, (b.getD 18 0).toNat = x := ⟨_, rfl⟩
    obtain ⟨S, hS⟩ : ∃ x, (more (more 0#32 (b.take 12)) (b.drop 16)).toNat = x := ⟨_, rfl⟩
    have hSl : S < 4294967296 := by rw [← hS]; exact (more (more 0#32 (b.take 12)) (b.drop 16)).isLt
    have hi256 : i0 < 256 := by rw [← hi0]; exact (b.getD 16 0).toNat_lt
    have hm256 : m0 < 256 := by rw [← hm0]; exact (b.getD 17 0).toNat_lt
    have hz256 : z0 < 256 := by rw [← hz0]; exact (b.getD 18 0).toNat_lt
    have HP : Hid (partM m.ep m.num b = if ye = m.ep ∧ yn = m.num ∧ z0 ≤ 45 ∧ yc = S then some ⟨ys, i0, m0, (b.drop 19).take z0⟩ else none) := Lib.hid (by unfold partM; rw [hye, hys, hyn, hyc, hi0, hm0, hz0, hS])
    have HN : Hid (numsV b 3 = [.int .u64 (ye : Int), .int .u64 (ys : Int), .int .u64 (yn : Int)]) := Lib.hid (by
      rw [← hye, ← hys, ← hyn]
      rfl)
    have HYC : Hid (be ((b.drop 12).take 4) = yc) := Lib.hid hyc
    have HB8 : Hid (V8 ((b.drop 16).getD 0 0) = (i0 : Int) ∧ V8 ((b.drop 16).getD 1 0) = (m0 : Int) ∧ V8 ((b.drop 16).getD 2 0) = (z0 : Int)) := Lib.hid (by
      have e : ∀ j, (b.drop 16).getD j 0 = b.getD (16 + j) 0 := fun j => by simp only [List.getD_eq_getElem?_getD, List.getElem?_drop]
      rw [e 0, e 1, e 2]
      exact ⟨by rw [← hi0]; rfl, by rw [← hm0]; rfl, by rw [← hz0]; rfl⟩)
    have HU : Hid (U (more (more 0#32 (b.take 12)) (b.drop 16)) = (S : Int)) := Lib.hid (by rw [← hS]; rfl)
    obtain ⟨o, ho⟩ : ∃ o, partM m.ep m.num b = o := ⟨_, rfl⟩
    rw [ho] at HP ⊢
    obtain ⟨ep, hep⟩ : ∃ x, m.ep = x := ⟨_, rfl⟩
    obtain ⟨num, hnum⟩ : ∃ x, m.num = x := ⟨_, rfl⟩
    rw [hep] at HP
    rw [hnum] at HP
    have HEP := Lib.hid hep
    have HNUM := Lib.hid hnum
    clear hye hys hyn hyc hi0 hm0 hz0 hS ho hep hnum
    have c0' := c0
    have c1' := c1
    go_enter Tryd.func62, Tryd.ntmps62
    go_wp2_with fail
    generalize hw1 : w.alloc (.cells #[.int .u64 0, .int .i64 0, .int .i64 0, .slice none 0 0] 121) = w1 at *
    have d0 : w1.drew.cell? ⟨g, 0, none⟩ = some (.pointer (some ⟨a, 0, none⟩)) := c0
    have d1 : w1.drew.cell? ⟨g, 1, none⟩ = some (.int .i64 (dev : Int)) := c1
    refine Ord.region_ord [] [0, 1, 2, 3, 4, 5, 6, 7, 8, 9, 10, 11, 12, 13, 14] (by kernel_rfl) (by kernel_rfl) (by kernel_rfl) (by kernel_rfl) (Ord.ord_all [_, _, _, _, _, _, _, _, _, _, _, _, _, _, _] rfl (by kernel_rfl) ?_)
    go_wp2_with fail
    refine (HRD.out).mono ?_
    rintro e w2 ⟨g1, k1, rfl, hk1, hg1, ho1, hb1⟩
    have HB1 : Hid (Below w.heap.size w w2) := Lib.hid (HB0.out.trans (hb1.mono HB0.out.size))
    have HO1 := Lib.hid ho1
    have HZ1 := Lib.hid (HZ.out.below_ hb1)
    have HW1 := Lib.hid (HWB.out.below hb1)
    have HT1 := Lib.hid (HT.out.below hb1 (Nat.lt_of_lt_of_le hgc HB0.out.size))
    have HNB := Lib.hid (numbers_any w2 (some ⟨g1, 0, none⟩) b 64 k1 3 HL.out hk1 (by omega) ho1.bat (by omega))
    clear ho1 hb1 HRD c0 c1 c0' c1' c2 c3 c4 c5 c6 d0 d1
    go_wp2_with fail
    refine Ord.nx_end ?_
    go_wp2_with fail
    refine HNB.out.mono ?_
    rintro e w3 ⟨AL, AR, cL, cR, rfl, hol, har, hcr, hb3⟩
    rw [HN.out] at hol
    have HB3 := Lib.hid (HB1.out.trans (hb3.mono HB1.out.size))
    have HO3 := Lib.hid (HO1.out.below hb3)
    have HZ3 := Lib.hid (HZ1.out.below_ hb3)
    have HW3 := Lib.hid (HW1.out.below hb3)
    have HT3 := Lib.hid (HT1.out.below hb3 (Nat.lt_of_lt_of_le hgc HB1.out.size))
    have HOL := Lib.hid hol
    have HZ3s : Hid (w.heap.size < w3.heap.size) := Lib.hid HZ3.out.lt
    have HTK := Lib.hid (take_yes AR (b.drop 12) 52 cR 4 w3 (by rw [List.length_drop, HL.out]) hcr (by omega) har (by omega) (by omega) (by omega))
    clear hol har hb3 HNB HO1 HZ1 HW1 HT1
    go_wp2_with fail
    refine HTK.out.mono ?_
    rintro e w4 ⟨A4, N4, k4, rfl, ho4, hb4⟩
    have hN4 : N4 = 48 := by have h1 := ho4.len; rw [List.length_drop, List.length_drop, HL.out] at h1; omega
    subst hN4
    simp only
    rw [HYC.out]
    have HB4 := Lib.hid (HB3.out.trans (hb4.mono HB3.out.size))
    have ho4' : Own w4 w3.heap.size 5 A4 48 k4 (b.drop 16) := by have := ho4; rwa [List.drop_drop] at this
    obtain ⟨g4, rfl⟩ : ∃ g4, A4 = some ⟨g4, 0, none⟩ := by
      rcases ho4'.form with ⟨_, h0, _⟩ | ⟨g4, h, _⟩
      · omega
      · exact ⟨g4, h⟩
    have hk4 := ho4'.cap_le.1
    have r0 := ho4'.at_ (k := 0) (by omega)
    have r1 := ho4'.at_ (k := 1) (by omega)
    have r2 := ho4'.at_ (k := 2) (by omega)
    rw [HB8.out.1] at r0
    rw [HB8.out.2.1] at r1
    rw [HB8.out.2.2] at r2
    have HO4 := Lib.hid ho4'
    have HO5 := Lib.hid (HO3.out.below hb4)
    have HZ4 := Lib.hid (HZ3.out.below_ hb4)
    have HT4 := Lib.hid (HT3.out.below hb4 (Nat.lt_of_lt_of_le hgc HB3.out.size))
    obtain ⟨f0, f1, f2, f3, f4, f5, f6⟩ := (HW3.out.below hb4).cells
    rw [HEP.out] at f4
    rw [HNUM.out] at f6
    have hol4 := HOL.out.below hb4
    obtain ⟨gL, rfl, l0⟩ := hol4.cell 0 _ rfl
    obtain ⟨gL', e1, l1⟩ := hol4.cell 1 _ rfl
    cases e1
    obtain ⟨gL', e2, l2⟩ := hol4.cell 2 _ rfl
    cases e2
    clear ho4 ho4' hb4 HTK HO3 HZ3 HT3 HW3 hol4 HOL f0 f1 f2 f3 f5
    have hwi : IntKind.i64.wrap (i0 : Int) = (i0 : Int) := IntWalk.i64_in _ (by omega)
    have hwm : IntKind.i64.wrap (m0 : Int) = (m0 : Int) := IntWalk.i64_in _ (by omega)
    have hwz : IntKind.i64.wrap (z0 : Int) = (z0 : Int) := IntWalk.i64_in _ (by omega)
    go_wp2_with fail
    refine Ord.region_ordM [] [3, 7, 11] [0, 1, 2, 3, 4, 5, 6, 7, 8, 9, 10, 11, 12, 13, 14] (by kernel_rfl) (by kernel_rfl) (by kernel_rfl) (by kernel_rfl) (Ord.ord_run [0, 1, 2] [_, _, _] rfl (by kernel_rfl) ?_)
    have r0' : w4.drew.cell? ⟨g4, 0, none⟩ = some (.int .u8 (i0 : Int)) := r0
    have r1' : w4.drew.cell? ⟨g4, 1, none⟩ = some (.int .u8 (m0 : Int)) := r1
    have r2' : w4.drew.cell? ⟨g4, 2, none⟩ = some (.int .u8 (z0 : Int)) := r2
    go_wp2_with fail
    refine Ord.nx_ord (Ord.ord_pure (.int .i64 (i0 : Int)) rfl (by kernel_rfl) (by rfl) (fun w' => by first | (go_simp; done) | (go_simp; exact hwi)) ?_)
    simp only [Act.put]
    refine Ord.ord_run [4, 5, 6] [_, _, _] rfl (by kernel_rfl) ?_
    go_wp2_with fail
    refine Ord.nx_ord (Ord.ord_pure (.int .i64 (m0 : Int)) rfl (by kernel_rfl) (by rfl) (fun w' => by first | (go_simp; done) | (go_simp; exact hwm)) ?_)
    simp only [Act.put]
    refine Ord.ord_run [8, 9, 10] [_, _, _] rfl (by kernel_rfl) ?_
    go_wp2_with fail
    refine Ord.nx_ord (Ord.ord_pure (.int .i64 (z0 : Int)) rfl (by kernel_rfl) (by rfl) (fun w' => by first | (go_simp; done) | (go_simp; exact hwz)) ?_)
    simp only [Act.put]
    refine Ord.ord_all [_, _, _] rfl (by kernel_rfl) ?_
    go_wp2_with fail
    refine Ord.nx_end ?_
    clear r0 r1 r2 r0' r1' r2' hwi hwm hwz
    go_wp2_with fail
    have q0 : w4.drew.drew.cell? ⟨gL, 0, none⟩ = some (.int .u64 (ye : Int)) := l0
    have q1 : w4.drew.drew.cell? ⟨gL, 2, none⟩ = some (.int .u64 (yn : Int)) := l2
    have q2 : w4.drew.drew.cell? ⟨g, 4, none⟩ = some (.int .u64 (ep : Int)) := f4
    have q3 : w4.drew.drew.cell? ⟨g, 6, none⟩ = some (.int .u64 (num : Int)) := f6
    have hcut1 := fun W => run_cut_h (P := Tryd.prog) 32 5 Pl.byteTy (some ⟨g1, 0, none⟩) 64 k1 .i64 12 12 rfl (by omega) W
    have hcut2 := fun W => run_cut_l (P := Tryd.prog) 32 5 Pl.byteTy (some ⟨g1, 0, none⟩) 64 k1 .i64 16 16 rfl (by omega) W
    have hbd := run_part0
    clear hbld
    by_cases h1 : ye = ep
    · subst h1
      by_cases h2 : yn = num
      · subst h2
        by_cases h3 : z0 ≤ 45
        · have h3I : (z0 : Int) ≤ 45 := by omega
          have hwS : IntKind.u64.wrap (S : Int) = (S : Int) := by rw [IntKind.wrap_u64]; omega
          by_cases h4 : yc = S
          · obtain rfl : o = some ⟨ys, i0, m0, (b.drop 19).take z0⟩ := by rw [HP.out, if_pos ⟨rfl, rfl, h3, h4⟩]
            subst h4
            clear HP
            refine Ord.region_ordM [26, 29] [7, 16, 20, 30, 31] [0, 1, 2, 3, 4, 5, 6, 7, 8, 9, 10, 11, 12, 13, 14, 15, 16, 17, 18, 19, 20, 21, 22, 23, 24, 25, 27, 28, 26, 29, 30, 31, 32] (by kernel_rfl) (by kernel_rfl) (by kernel_rfl) (by kernel_rfl) (Ord.ord_run [0, 1, 2] [_, _, _] rfl (by kernel_rfl) ?_)
            go_wp2_with fail
            refine Ord.nx_ord (Ord.ord_run [3, 4, 5, 6] [_, _, _, _] rfl (by kernel_rfl) ?_)
            go_wp2_with fail
            refine Ord.nx_ord (Ord.ord_pure (.bool false) rfl (by kernel_rfl) (by rfl) (fun w' => by first | (go_simp; done) | (go_simp; first | (simp; done) | (simp; omega) | assumption)) ?_)
            simp only [Act.put, List.setIfInBounds_toArray]
            refine Ord.ord_run [8, 9, 10, 11] [_, _, _, _] rfl (by kernel_rfl) ?_
            go_wp2_with fail
            refine Ord.nx_ord (Ord.ord_run [12, 13, 14, 15] [_, _, _, _] rfl (by kernel_rfl) ?_)
            go_wp2_with fail
            refine Ord.nx_ord (Ord.ord_pure (.bool false) rfl (by kernel_rfl) (by rfl) (fun w' => by first | (go_simp; done) | (go_simp; first | (simp; done) | (simp; omega) | assumption)) ?_)
            simp only [Act.put]
            refine Ord.ord_run [17, 18, 19] [_, _, _] rfl (by kernel_rfl) ?_
            go_wp2_with fail
            refine Ord.nx_ord (Ord.ord_pure (.bool false) rfl (by kernel_rfl) (by rfl) (fun w' => by first | (go_simp; done) | (go_simp; first | (simp; done) | (simp; omega) | assumption)) ?_)
            simp only [Act.put]
            refine Ord.ord_run [21, 22] [_, _] rfl (by kernel_rfl) ?_
            go_wp2_with fail
            refine Ord.nx_ord (Ord.ord_run [23, 24, 25, 27, 28] [_, _, _, _, _] rfl (by kernel_rfl) ?_)
            go_wp2_with fail
            refine Ord.nx_ord (Ord.ord_oneM rfl (by kernel_rfl) ?_)
            go_wp2_with fail
            refine (sum_any (some ⟨g1, 0, none⟩) (b.take 12) 12 k1 w4.drew.drew (by rw [List.length_take, HL.out]; rfl) (by omega) (HO5.out.bat.take 12) HT4.out).mono ?_
            rintro e _ ⟨rfl, rfl⟩
            go_wp2_with fail
            refine Ord.nx_and (Below.refl _ _) ?_
            refine Ord.ord_oneM rfl (by kernel_rfl) ?_
            go_wp2_with fail
            refine (more_any (more 0#32 (b.take 12)) (cutA (some ⟨g1, 0, none⟩) k1 16) (b.drop 16) 48 (k1 - 16) w4.drew.drew (by rw [List.length_drop, HL.out]) (by omega) (HO5.out.bat.cut k1 16 (by rw [HL.out]; omega)) HT4.out).mono ?_
            rintro e _ ⟨rfl, rfl⟩
            rw [HU.out]
            go_wp2_with fail
            refine Ord.nx_and (Below.refl _ _) ?_
            refine Ord.ord_pure (.int .u64 (yc : Int)) rfl (by kernel_rfl) (by rfl) (fun w' => by first | (go_simp; done) | (go_simp; exact hwS)) ?_
            simp only [Act.put]
            refine Ord.ord_pure (.bool false) rfl (by kernel_rfl) (by rfl) (fun w' => by first | (go_simp; done) | (go_simp; first | (simp; done) | (simp; omega) | assumption)) ?_
            simp only [Act.put]
            refine Ord.ord_all [_] rfl (by kernel_rfl) ?_
            go_wp2_with fail
            refine Ord.nx_end ?_
            clear q0 q1 q2 q3 hcut1 hcut2
            obtain ⟨q, hq⟩ : ∃ q, 3 + z0 = q := ⟨_, rfl⟩
            have hw3z : IntKind.i64.wrap (3 + (z0 : Int)) = (q : Int) := by rw [IntWalk.i64_in _ (by omega)]; omega
            have HQ := Lib.hid hq
            have s1 : w4.drew.drew.drew.cell? ⟨gL, 1, none⟩ = some (.int .u64 (ys : Int)) := l1
            have hcut3 := fun W => run_cut_lhm (P := Tryd.prog) 32 5 Pl.byteTy (some ⟨g4, 0, none⟩) 48 k4 .i64 .i64 .i64 3 (q : Int) (q : Int) 3 q q rfl rfl rfl (by omega) (by omega) (by omega) W
            rw [show q - 3 = z0 by omega] at hcut3
            clear hq
            go_wp2_with fail
            refine Ord.region_ordM [] [7, 9] [0, 1, 2, 3, 4, 5, 6, 7, 8, 9, 10, 11, 12, 13, 14] (by kernel_rfl) (by kernel_rfl) (by kernel_rfl) (by kernel_rfl) (Ord.ord_run [0, 1, 2] [_, _, _] rfl (by kernel_rfl) ?_)
            go_wp2_with fail
            refine Ord.nx_ord (Ord.ord_run [3, 4, 5, 6] [_, _, _, _] rfl (by kernel_rfl) ?_)
            go_wp2_with fail
            refine Ord.nx_ord (Ord.ord_pure (.int .i64 (q : Int)) rfl (by kernel_rfl) (by rfl) (fun w' => by first | (go_simp; done) | (go_simp; exact hw3z)) ?_)
            simp only [Act.put, List.setIfInBounds_toArray]
            refine Ord.ord_run [8] [_] rfl (by kernel_rfl) ?_
            go_wp2_with fail
            refine Ord.nx_ord (Ord.ord_pure (.int .i64 (q : Int)) rfl (by kernel_rfl) (by rfl) (fun w' => by first | (go_simp; done) | (go_simp; exact hw3z)) ?_)
            simp only [Act.put]
            refine Ord.ord_run [10, 11] [_, _] rfl (by kernel_rfl) ?_
            go_wp2_with fail
            refine Ord.nx_ord (Ord.ord_all [_, _, _] rfl (by kernel_rfl) ?_)
            go_wp2_with
              (refine wpList_store_all rfl 121 (.tmp 4) (.tmp 108) rfl w.heap.size 121 [.int .u64 0, .int .i64 0, .int .i64 0, .slice none 0 0] [.int .u64 (ys : Int), .int .i64 (i0 : Int), .int .i64 (m0 : Int), .slice (cutA (some ⟨g4, 0, none⟩) q 3) z0 z0] rfl rfl (show Blk w4.drew.drew.drew _ _ _ from HZ4.out) rfl (by kernel_rfl) (part_one2 _ _ _ _ _ _) ?_
               intro w7 hk7 hg7 hz7
               have HK7 := Lib.hid hk7
               have HG7 := Lib.hid hg7
               clear hk7 hg7 hz7)
            refine Ord.nx_end ?_
            clear s1 hcut3
            go_wp2_with fail
            refine bodyPost_ret (v := .tuple #[partV ⟨ys, i0, m0, (b.drop 19).take z0⟩ (.slice (cutA (some ⟨g4, 0, none⟩) q 3) z0 z0), .bool true, .int .i64 0]) ?_ rfl ?_
            · simp [results, Tryd.results62, asAddr, load_part (p := ⟨ys, i0, m0, (b.drop 19).take z0⟩) HK7.out]
            · refine ⟨(below_drewN HB4.out 3).grown HG7.out (Nat.le_of_lt HZ4.out.lt) (fun g hg => by injection hg with hg; omega), .inr ⟨_, _, _, rfl, rfl, ?_, ?_⟩⟩
              · show ((b.drop 19).take z0).length = z0
                rw [List.length_take, List.length_drop, HL.out]
                omega
              · have hne : (some ⟨g4, 0, none⟩ : Option Addr) = none ∨ (some ⟨g4, 0, none⟩ : Option Addr).map (·.block) ≠ some w.heap.size := by
                  refine .inr fun e => ?_
                  injection e with e
                  have e' : g4 = w.heap.size := e
                  rcases HO4.out.form with ⟨h, _⟩ | ⟨g, h, hg, _⟩
                  · cases h
                  · injection h with h
                    injection h with h
                    have := HZ3s.out
                    omega
                have h1 : Own w7 w3.heap.size 5 (some ⟨g4, 0, none⟩) 48 k4 (b.drop 16) := Own.kept (w := w4.drew.drew.drew) HO4.out HG7.out hne
                have h2 := (h1.bat.take q).cut q 3 (by rw [List.length_take]; omega)
                rw [List.drop_take, List.drop_drop, show q - 3 = z0 by have := HQ.out; omega] at h2
                exact h2
          · obtain rfl : o = none := by rw [HP.out, if_neg fun h => h4 h.2.2.2]
            have hne : ((yc : Int) != (S : Int)) = true := by simp; omega
            clear HP h4
            refine Ord.region_ordM [26, 29] [7, 16, 20, 30, 31] [0, 1, 2, 3, 4, 5, 6, 7, 8, 9, 10, 11, 12, 13, 14, 15, 16, 17, 18, 19, 20, 21, 22, 23, 24, 25, 27, 28, 26, 29, 30, 31, 32] (by kernel_rfl) (by kernel_rfl) (by kernel_rfl) (by kernel_rfl) (Ord.ord_run [0, 1, 2] [_, _, _] rfl (by kernel_rfl) ?_)
            go_wp2_with fail
            refine Ord.nx_ord (Ord.ord_run [3, 4, 5, 6] [_, _, _, _] rfl (by kernel_rfl) ?_)
            go_wp2_with fail
            refine Ord.nx_ord (Ord.ord_pure (.bool false) rfl (by kernel_rfl) (by rfl) (fun w' => by first | (go_simp; done) | (go_simp; first | (simp; done) | (simp; omega) | assumption)) ?_)
            simp only [Act.put, List.setIfInBounds_toArray]
            refine Ord.ord_run [8, 9, 10, 11] [_, _, _, _] rfl (by kernel_rfl) ?_
            go_wp2_with fail
            refine Ord.nx_ord (Ord.ord_run [12, 13, 14, 15] [_, _, _, _] rfl (by kernel_rfl) ?_)
            go_wp2_with fail
            refine Ord.nx_ord (Ord.ord_pure (.bool false) rfl (by kernel_rfl) (by rfl) (fun w' => by first | (go_simp; done) | (go_simp; first | (simp; done) | (simp; omega) | assumption)) ?_)
            simp only [Act.put]
            refine Ord.ord_run [17, 18, 19] [_, _, _] rfl (by kernel_rfl) ?_
            go_wp2_with fail
            refine Ord.nx_ord (Ord.ord_pure (.bool false) rfl (by kernel_rfl) (by rfl) (fun w' => by first | (go_simp; done) | (go_simp; first | (simp; done) | (simp; omega) | assumption)) ?_)
            simp only [Act.put]
            refine Ord.ord_run [21, 22] [_, _] rfl (by kernel_rfl) ?_
            go_wp2_with fail
            refine Ord.nx_ord (Ord.ord_run [23, 24, 25, 27, 28] [_, _, _, _, _] rfl (by kernel_rfl) ?_)
            go_wp2_with fail
            refine Ord.nx_ord (Ord.ord_oneM rfl (by kernel_rfl) ?_)
            go_wp2_with fail
            refine (sum_any (some ⟨g1, 0, none⟩) (b.take 12) 12 k1 w4.drew.drew (by rw [List.length_take, HL.out]; rfl) (by omega) (HO5.out.bat.take 12) HT4.out).mono ?_
            rintro e _ ⟨rfl, rfl⟩
            go_wp2_with fail
            refine Ord.nx_and (Below.refl _ _) ?_
            refine Ord.ord_oneM rfl (by kernel_rfl) ?_
            go_wp2_with fail
            refine (more_any (more 0#32 (b.take 12)) (cutA (some ⟨g1, 0, none⟩) k1 16) (b.drop 16) 48 (k1 - 16) w4.drew.drew (by rw [List.length_drop, HL.out]) (by omega) (HO5.out.bat.cut k1 16 (by rw [HL.out]; omega)) HT4.out).mono ?_
            rintro e _ ⟨rfl, rfl⟩
            rw [HU.out]
            go_wp2_with fail
            refine Ord.nx_and (Below.refl _ _) ?_
            refine Ord.ord_pure (.int .u64 (S : Int)) rfl (by kernel_rfl) (by rfl) (fun w' => by first | (go_simp; done) | (go_simp; exact hwS)) ?_
            simp only [Act.put]
            refine Ord.ord_pure (.bool true) rfl (by kernel_rfl) (by rfl) (fun w' => by first | (go_simp; done) | (go_simp; first | (simp; done) | (simp; omega) | assumption)) ?_
            simp only [Act.put]
            refine Ord.ord_all [_] rfl (by kernel_rfl) ?_
            go_wp2_with fail
            refine Ord.nx_end ?_
            clear q0 q1 q2 q3 hcut1 hcut2
            go_wp2_with
              (refine wpList_store_all rfl 121 (.tmp 4) (.tmp 96) rfl w.heap.size 121 [.int .u64 0, .int .i64 0, .int .i64 0, .slice none 0 0] [.int .u64 0, .int .i64 0, .int .i64 0, .slice none 0 0] rfl rfl (show Blk w4.drew.drew _ _ _ from HZ4.out) rfl (by kernel_rfl) part_one ?_
               intro w7 hk7 hg7 hz7
               have HK7 := Lib.hid hk7
               have HG7 := Lib.hid hg7
               clear hk7 hg7 hz7)
            refine bodyPost_ret (v := .tuple #[partV ⟨0, 0, 0, []⟩ (.slice none 0 0), .bool false, .int .i64 0]) ?_ rfl ?_
            · simp [results, Tryd.results62, asAddr, load_part (p := ⟨0, 0, 0, []⟩) HK7.out]
            · exact ⟨(below_drewN HB4.out 2).grown HG7.out (Nat.le_of_lt HZ4.out.lt) (fun g hg => by injection hg with hg; omega), .inl ⟨rfl, rfl⟩⟩
        · obtain rfl : o = none := by rw [HP.out, if_neg fun h => h3 h.2.2.1]
          have h3I : ¬ (z0 : Int) ≤ 45 := by omega
          clear HP h3
          refine Ord.region_ordM [] [7, 16, 20, 23, 24, 25, 27, 28, 26, 29, 30, 31] [0, 1, 2, 3, 4, 5, 6, 7, 8, 9, 10, 11, 12, 13, 14, 15, 16, 17, 18, 19, 20, 21, 22, 23, 24, 25, 27, 28, 26, 29, 30, 31, 32] (by kernel_rfl) (by kernel_rfl) (by kernel_rfl) (by kernel_rfl) (Ord.ord_run [0, 1, 2] [_, _, _] rfl (by kernel_rfl) ?_)
          go_wp2_with fail
          refine Ord.nx_ord (Ord.ord_run [3, 4, 5, 6] [_, _, _, _] rfl (by kernel_rfl) ?_)
          go_wp2_with fail
          refine Ord.nx_ord (Ord.ord_pure (.bool false) rfl (by kernel_rfl) (by rfl) (fun w' => by first | (go_simp; done) | (go_simp; first | (simp; done) | (simp; omega) | assumption)) ?_)
          simp only [Act.put, List.setIfInBounds_toArray]
          refine Ord.ord_run [8, 9, 10, 11] [_, _, _, _] rfl (by kernel_rfl) ?_
          go_wp2_with fail
          refine Ord.nx_ord (Ord.ord_run [12, 13, 14, 15] [_, _, _, _] rfl (by kernel_rfl) ?_)
          go_wp2_with fail
          refine Ord.nx_ord (Ord.ord_pure (.bool false) rfl (by kernel_rfl) (by rfl) (fun w' => by first | (go_simp; done) | (go_simp; first | (simp; done) | (simp; omega) | assumption)) ?_)
          simp only [Act.put]
          refine Ord.ord_run [17, 18, 19] [_, _, _] rfl (by kernel_rfl) ?_
          go_wp2_with fail
          refine Ord.nx_ord (Ord.ord_pure (.bool true) rfl (by kernel_rfl) (by rfl) (fun w' => by first | (go_simp; done) | (go_simp; first | (simp; done) | (simp; omega) | assumption)) ?_)
          simp only [Act.put]
          refine Ord.ord_run [21, 22] [_, _] rfl (by kernel_rfl) ?_
          go_wp2_with fail
          refine Ord.nx_ord (ord_skips [23, 24, 25, 27, 28, 26, 29, 30, 31] [_, _, _, _, _, _, _, _, _] rfl (by kernel_rfl) (by kernel_rfl) (by kernel_rfl) ?_)
          refine Ord.ord_all [_] rfl (by kernel_rfl) ?_
          go_wp2_with fail
          refine Ord.nx_end ?_
          clear q0 q1 q2 q3 hcut1 hcut2
          go_wp2_with
            (refine wpList_store_all rfl 121 (.tmp 4) (.tmp 96) rfl w.heap.size 121 [.int .u64 0, .int .i64 0, .int .i64 0, .slice none 0 0] [.int .u64 0, .int .i64 0, .int .i64 0, .slice none 0 0] rfl rfl (show Blk w4.drew.drew _ _ _ from HZ4.out) rfl (by kernel_rfl) part_one ?_
             intro w7 hk7 hg7 hz7
             have HK7 := Lib.hid hk7
             have HG7 := Lib.hid hg7
             clear hk7 hg7 hz7)
          refine bodyPost_ret (v := .tuple #[partV ⟨0, 0, 0, []⟩ (.slice none 0 0), .bool false, .int .i64 0]) ?_ rfl ?_
          · simp [results, Tryd.results62, asAddr, load_part (p := ⟨0, 0, 0, []⟩) HK7.out]
          · exact ⟨(below_drewN HB4.out 2).grown HG7.out (Nat.le_of_lt HZ4.out.lt) (fun g hg => by injection hg with hg; omega), .inl ⟨rfl, rfl⟩⟩
      · obtain rfl : o = none := by rw [HP.out, if_neg fun h => h2 h.2.1]
        have hne : ((yn : Int) != (num : Int)) = true := by simp; omega
        clear HP h2
        refine Ord.region_ordM [] [7, 16, 19, 20, 23, 24, 25, 27, 28, 26, 29, 30, 31] [0, 1, 2, 3, 4, 5, 6, 7, 8, 9, 10, 11, 12, 13, 14, 15, 16, 17, 18, 19, 20, 21, 22, 23, 24, 25, 27, 28, 26, 29, 30, 31, 32] (by kernel_rfl) (by kernel_rfl) (by kernel_rfl) (by kernel_rfl) (Ord.ord_run [0, 1, 2] [_, _, _] rfl (by kernel_rfl) ?_)
        go_wp2_with fail
        refine Ord.nx_ord (Ord.ord_run [3, 4, 5, 6] [_, _, _, _] rfl (by kernel_rfl) ?_)
        go_wp2_with fail
        refine Ord.nx_ord (Ord.ord_pure (.bool false) rfl (by kernel_rfl) (by rfl) (fun w' => by first | (go_simp; done) | (go_simp; first | (simp; done) | (simp; omega) | assumption)) ?_)
        simp only [Act.put, List.setIfInBounds_toArray]
        refine Ord.ord_run [8, 9, 10, 11] [_, _, _, _] rfl (by kernel_rfl) ?_
        go_wp2_with fail
        refine Ord.nx_ord (Ord.ord_run [12, 13, 14, 15] [_, _, _, _] rfl (by kernel_rfl) ?_)
        go_wp2_with fail
        refine Ord.nx_ord (Ord.ord_pure (.bool true) rfl (by kernel_rfl) (by rfl) (fun w' => by first | (go_simp; done) | (go_simp; first | (simp; done) | (simp; omega) | assumption)) ?_)
        simp only [Act.put]
        refine Ord.ord_run [17, 18] [_, _] rfl (by kernel_rfl) ?_
        go_wp2_with fail
        refine Ord.nx_ord (ord_skips [19, 20] [_, _] rfl (by kernel_rfl) (by kernel_rfl) (by kernel_rfl) ?_)
        refine Ord.ord_run [21, 22] [_, _] rfl (by kernel_rfl) ?_
        go_wp2_with fail
        refine Ord.nx_ord (ord_skips [23, 24, 25, 27, 28, 26, 29, 30, 31] [_, _, _, _, _, _, _, _, _] rfl (by kernel_rfl) (by kernel_rfl) (by kernel_rfl) ?_)
        refine Ord.ord_all [_] rfl (by kernel_rfl) ?_
        go_wp2_with fail
        refine Ord.nx_end ?_
        clear q0 q1 q2 q3 hcut1 hcut2
        go_wp2_with
          (refine wpList_store_all rfl 121 (.tmp 4) (.tmp 96) rfl w.heap.size 121 [.int .u64 0, .int .i64 0, .int .i64 0, .slice none 0 0] [.int .u64 0, .int .i64 0, .int .i64 0, .slice none 0 0] rfl rfl (show Blk w4.drew.drew _ _ _ from HZ4.out) rfl (by kernel_rfl) part_one ?_
           intro w7 hk7 hg7 hz7
           have HK7 := Lib.hid hk7
           have HG7 := Lib.hid hg7
           clear hk7 hg7 hz7)
        refine bodyPost_ret (v := .tuple #[partV ⟨0, 0, 0, []⟩ (.slice none 0 0), .bool false, .int .i64 0]) ?_ rfl ?_
        · simp [results, Tryd.results62, asAddr, load_part (p := ⟨0, 0, 0, []⟩) HK7.out]
        · exact ⟨(below_drewN HB4.out 2).grown HG7.out (Nat.le_of_lt HZ4.out.lt) (fun g hg => by injection hg with hg; omega), .inl ⟨rfl, rfl⟩⟩
    · obtain rfl : o = none := by rw [HP.out, if_neg fun h => h1 h.1]
      have hne : ((ye : Int) != (ep : Int)) = true := by simp; omega
      clear HP h1
      refine Ord.region_ordM [] [7, 9, 10, 11, 12, 13, 14, 15, 16, 19, 20, 23, 24, 25, 27, 28, 26, 29, 30, 31] [0, 1, 2, 3, 4, 5, 6, 7, 8, 9, 10, 11, 12, 13, 14, 15, 16, 17, 18, 19, 20, 21, 22, 23, 24, 25, 27, 28, 26, 29, 30, 31, 32] (by kernel_rfl) (by kernel_rfl) (by kernel_rfl) (by kernel_rfl) (Ord.ord_run [0, 1, 2] [_, _, _] rfl (by kernel_rfl) ?_)
      go_wp2_with fail
      refine Ord.nx_ord (Ord.ord_run [3, 4, 5, 6] [_, _, _, _] rfl (by kernel_rfl) ?_)
      go_wp2_with fail
      refine Ord.nx_ord (Ord.ord_pure (.bool true) rfl (by kernel_rfl) (by rfl) (fun w' => by first | (go_simp; done) | (go_simp; first | (simp; done) | (simp; omega) | assumption)) ?_)
      simp only [Act.put, List.setIfInBounds_toArray]
      refine Ord.ord_run [8] [_] rfl (by kernel_rfl) ?_
      go_wp2_with fail
      refine Ord.nx_ord (ord_skips [9, 10, 11, 12, 13, 14, 15, 16] [_, _, _, _, _, _, _, _] rfl (by kernel_rfl) (by kernel_rfl) (by kernel_rfl) ?_)
      refine Ord.ord_run [17, 18] [_, _] rfl (by kernel_rfl) ?_
      go_wp2_with fail
      refine Ord.nx_ord (ord_skips [19, 20] [_, _] rfl (by kernel_rfl) (by kernel_rfl) (by kernel_rfl) ?_)
      refine Ord.ord_run [21, 22] [_, _] rfl (by kernel_rfl) ?_
      go_wp2_with fail
      refine Ord.nx_ord (ord_skips [23, 24, 25, 27, 28, 26, 29, 30, 31] [_, _, _, _, _, _, _, _, _] rfl (by kernel_rfl) (by kernel_rfl) (by kernel_rfl) ?_)
      refine Ord.ord_all [_] rfl (by kernel_rfl) ?_
      go_wp2_with fail
      refine Ord.nx_end ?_
      clear q0 q1 q2 q3 hcut1 hcut2
      go_wp2_with
        (refine wpList_store_all rfl 121 (.tmp 4) (.tmp 96) rfl w.heap.size 121 [.int .u64 0, .int .i64 0, .int .i64 0, .slice none 0 0] [.int .u64 0, .int .i64 0, .int .i64 0, .slice none 0 0] rfl rfl (show Blk w4.drew.drew _ _ _ from HZ4.out) rfl (by kernel_rfl) part_one ?_
         intro w7 hk7 hg7 hz7
         have HK7 := Lib.hid hk7
         have HG7 := Lib.hid hg7
         clear hk7 hg7 hz7)
      refine bodyPost_ret (v := .tuple #[partV ⟨0, 0, 0, []⟩ (.slice none 0 0), .bool false, .int .i64 0]) ?_ rfl ?_
      · simp [results, Tryd.results62, asAddr, load_part (p := ⟨0, 0, 0, []⟩) HK7.out]
      · exact ⟨(below_drewN HB4.out 2).grown HG7.out (Nat.le_of_lt HZ4.out.lt) (fun g hg => by injection hg with hg; omega), .inl ⟨rfl, rfl⟩⟩
  · have hkI : (N : Int) ≤ (k : Int) := by omega
    have hpa : partAt (virt H ws) N m.ep m.num k = none := by unfold partAt; rw [if_neg hk]
    rw [hpa]
    have HZ := Lib.hid hz
    have HB0 := Lib.hid hb0
    clear hst hd hon hw ht hz hb0 hpa
    go_enter Tryd.func62, Tryd.ntmps62
    go_wp2_with fail
    refine bodyPost_ret (v := .tuple #[partV ⟨0, 0, 0, []⟩ (.slice none 0 0), .bool false, .int .i64 0]) ?_ rfl ?_
    · simp [results, Tryd.results62, asAddr, load_part (p := ⟨0, 0, 0, []⟩) HZ.out]
    · exact ⟨HB0.out, .inl ⟨rfl, rfl⟩⟩
end Go.Proofs.YtlnfeehokpkgiaaDoor.Wal
