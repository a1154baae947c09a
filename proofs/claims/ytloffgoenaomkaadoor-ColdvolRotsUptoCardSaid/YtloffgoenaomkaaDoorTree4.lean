/- Layer 5 (tree): the root of a growing row. -/
import Derived.Test.YtloffgoenaomkaaDoorTree3
namespace Go.Proofs.YtloffgoenaomkaaDoor.Sha
open Go Go.RowKit Mem Pl Crc Hash
/-- Rows put together from behind. -/
def topG : List (List UInt8) → List UInt8
  | [] => []
  | [p] => p
  | p :: q :: ps => nodeM p (topG (q :: ps))
def topM (ps : List (List UInt8)) : List UInt8 := if ps.length = 0 then hashM [] else topG ps
theorem topG_len : ∀ {ps : List (List UInt8)}, ps ≠ [] → (∀ p ∈ ps, p.length = 32) → (topG ps).length = 32
  | [], h, _ => absurd rfl h
  | [p], _, h => h p (List.mem_singleton.2 rfl)
  | _p :: _q :: _ps, _, _ => nodeM_len _ _
theorem topM_len {ps : List (List UInt8)} (h : ∀ p ∈ ps, p.length = 32) : (topM ps).length = 32 := by
  unfold topM
  split
  · exact hashM_len _
  · rename_i h0
    exact topG_len (by intro e; rw [e] at h0; exact h0 rfl) h
theorem topG_drop {ps : List (List UInt8)} {k : Nat} {p : List UInt8} (h : ps[k]? = some p) (hk : k + 1 < ps.length) : topG (ps.drop k) = nodeM p (topG (ps.drop (k + 1))) := by
  have h1 : ps.drop k = p :: ps.drop (k + 1) := by
    rw [List.drop_eq_getElem_cons (by omega)]
    rw [List.getElem?_eq_getElem (by omega)] at h
    rw [Option.some.inj h]
  have h2 : ∃ q qs, ps.drop (k + 1) = q :: qs := by
    rw [List.drop_eq_getElem_cons hk]
    exact ⟨_, _, rfl⟩
  obtain ⟨q, qs, h2⟩ := h2
  rw [h1, h2]
  rfl
def RootR (w : World) (ps : List (List UInt8)) (iv : Value) (wr : World) : Prop :=
  ∃ k : Nat, k < ps.length ∧ iv = .int .i64 ((k : Int) - 1) ∧ Blk wr (w.heap.size + 1) 44 (cellsOf (topG (ps.drop k))) ∧ Blk wr w.heap.size 44 (cellsOf z32) ∧ Below w.heap.size w wr
set_option maxRecDepth 100000 in
set_option maxHeartbeats 4000000 in
theorem groot_any (w : World) (F : Nat → Prop) (g n : Nat) (ps : List (List UInt8)) (hg : GrowB w F g n ps) (hn : n ≤ 1000000) (hkt : Ktab w) (hgk : 1 < w.heap.size) :
    Calls Tryd.prog 49 #[.pointer (some ⟨g, 0, none⟩)] w fun e w' => e = .returned (.agg (cellsOf (topM ps))) ∧ Below w.heap.size w w' := by
  obtain ⟨v, hk, hrow, hpc⟩ := hg
  have hglt := hk.lt
  have c0 := hk.cell 0
  have c1 := hk.cell 1
  simp at c0 c1
  have hal := run_allocHash
  have hb1 := below_al' (w := w) (.cells (cellsOf z32) 44)
  have hk1 := Blk.new w 44 (cellsOf z32)
  have HW1 := Lib.hid (⟨hb1, hk1, hk.below_ hb1, hrow.1.below hb1⟩ : _ ∧ _ ∧ _ ∧ _)
  have HKT := Lib.hid hkt
  have HSN := Lib.hid (sumNil_any (w.alloc (.cells (cellsOf z32) 44)) (hkt.below hb1 hgk) (by simp; omega))
  have HP := Lib.hid (⟨hpc, hrow.2⟩ : _ ∧ _)
  have HVW := Lib.hid hrow.1
  have HKW := Lib.hid hk
  by_cases h0 : n = 0
  · have hps : ps.length = 0 := by
      rw [hpc, h0, pc]
      simp
    have HT : Hid (topM ps = hashM []) := Lib.hid (by unfold topM; rw [if_pos hps])
    subst h0
    clear hk hrow hpc hb1 hk1 hkt hps c1
    go_enter Tryd.func49, Tryd.ntmps49
    go_wp2_with fail
    refine HSN.out.mono ?_
    rintro e w2 ⟨rfl, hb2⟩
    have HK2 := Lib.hid (⟨HW1.out.2.1.below_ hb2, HW1.out.1.trans (hb2.mono HW1.out.1.size)⟩ : _ ∧ _)
    clear hb2
    go_wp2_with
      (refine wpList_store_hash rfl (.tmp 2) (.tmp 10) rfl w.heap.size _ z32 (hashM []) rfl rfl HK2.out.1 rfl (hashM_len []) ?_
       intro w9 hk9 hg9 hz9)
    have HB9 := Lib.hid (HK2.out.2.grown hg9 HK2.out.2.size (fun k hk => by injection hk with hk; omega))
    have hld := load_hash hk9 (hashM_len [])
    refine bodyPost_ret (v := .agg (cellsOf (hashM []))) ?_ rfl ⟨by rw [HT.out], HB9.out⟩
    simp [results, Tryd.results49, asAddr, Act.put, hld]
  · have hps : 0 < ps.length := by rw [hpc]; exact pc_pos (by omega)
    have HT : Hid (topM ps = topG (ps.drop 0)) := Lib.hid (by unfold topM; rw [if_neg (by omega)]; rfl)
    obtain ⟨k, hkl⟩ : ∃ k, ps.length = k + 1 := ⟨ps.length - 1, by omega⟩
    obtain ⟨p, hp⟩ : ∃ p, ps[k]? = some p := ⟨_, List.getElem?_eq_getElem (by omega)⟩
    obtain ⟨gp, cap, cur, hv, hgp, hcur, hcap, _⟩ := hrow.1.form hps
    subst hv
    rw [hkl] at c1
    have hvec := hrow.1
    rw [hkl] at hvec
    have hkmax : k ≤ 9223372036854775806 := by have := hvec.le; unfold maxLen at this; omega
    have hvecA : Vec (w.alloc (.cells (cellsOf z32) 44)) F 44 32 (.slice (some ⟨gp, 0, none⟩) (k + 1) cap) (k + 1) (flatH ps) := hvec.below hb1
    have HRNG := Lib.hid (hvecA.range (k * 32) (p.map B8) (flatH_get hrow.2 hp))
    have hwk3 : IntKind.i64.wrap (k : Int) = (k : Int) := IntWalk.i64_in _ (by omega)
    have hwk1 : IntKind.i64.wrap ((k : Int) + 1 - 1) = (k : Int) := by rw [show (k : Int) + 1 - 1 = (k : Int) by omega]; exact IntWalk.i64_in _ (by omega)
    have hwk2 : IntKind.i64.wrap ((k : Int) - 1) = (k : Int) - 1 := IntWalk.i64_in _ (by omega)
    have hwk4 : IntKind.i64.wrap ((k : Int) + 1 - 2) = (k : Int) - 1 := by rw [show (k : Int) + 1 - 2 = (k : Int) - 1 by omega]; exact IntWalk.i64_in _ (by omega)
    have hpl : p.length = 32 := hrow.2 p (List.mem_of_getElem? hp)
    have hnz : ¬ (n : Int) = 0 := by omega
    have HPP := Lib.hid (⟨hp, hkl, hpl⟩ : _ ∧ _ ∧ _)
    have HGPL := Lib.hid hgp
    have hk3 := Blk.new_at (w.alloc (.cells (cellsOf z32) 44)).drew (w.heap.size + 1) (by show (w.alloc _).heap.size = _; simp) 44 (cellsOf z32)
    have HK3 := Lib.hid (⟨hk3, (HW1.out.2.1.drew).alloc (.cells (cellsOf z32) 44), (below_drewN HW1.out.1 1).alloc (by show _ ≤ (w.alloc _).heap.size; simp) (.cells (cellsOf z32) 44)⟩ : _ ∧ _ ∧ _)
    clear hk hrow hpc hb1 hk1 hkt hps hp hkl hgp hcur hvec hvecA hk3
    go_enter Tryd.func49, Tryd.ntmps49
    go_wp2_with fail
    refine Ord.region_ordM [] [9] [0, 1, 2, 3, 4, 5, 6, 7, 8, 9, 10, 11, 12, 13] (by kernel_rfl) (by kernel_rfl) (by kernel_rfl) (by kernel_rfl) (Ord.ord_run [0, 1, 2, 3, 4, 5, 6, 7, 8] [_, _, _, _, _, _, _, _, _] rfl (by kernel_rfl) ?_)
    go_wp2_with fail
    refine Ord.nx_ord (Ord.ord_pure (.int .i64 (k : Int)) rfl (by kernel_rfl) rfl (fun w' => by first | (go_simp; done) | (go_simp; exact hwk3)) ?_)
    simp only [Act.put, List.setIfInBounds_toArray]
    refine Ord.ord_all [_, _, _, _] rfl (by kernel_rfl) ?_
    go_wp2_with (first
      | (refine wpList_load_mid (op := ⟨some 22, _, _, _, _, _⟩) rfl 44 (.tmp 21) rfl gp (k * 32) rfl (p.map B8) _ (show World.rangeAt _ _ _ _ from HRNG.out) hashTy rfl (by rw [hash_size, List.length_map, HPP.out.2.2]) ?_)
      | (refine wpList_store_hash rfl (.tmp 3) (.tmp 22) rfl (w.heap.size + 1) _ z32 p rfl rfl HK3.out.1 rfl HPP.out.2.2 ?_
         intro w3 hk3 hg3 hz3))
    have htk : topG (ps.drop k) = p := by
      have h1 : ps.drop k = [p] := by
        have hp := HPP.out.1
        rw [List.drop_eq_getElem_cons (by have := HPP.out.2.1; omega), List.drop_of_length_le (by have := HPP.out.2.1; omega)]
        rw [List.getElem?_eq_getElem (by have := HPP.out.2.1; omega)] at hp
        rw [Option.some.inj hp]
      rw [h1]
      rfl
    have HR0 : Hid (RootR w ps (.int .i64 ((k : Int) - 1)) w3) := Lib.hid ⟨k, by have := HPP.out.2.1; omega, rfl, by rw [htk]; exact hk3, HK3.out.2.1.grown hg3 (by simp), HK3.out.2.2.grown hg3 HK3.out.2.2.size (fun x e => by injection e with e; omega)⟩
    have c1' := (HKW.out.below_ HR0.out.choose_spec.2.2.2.2).cell 1
    simp at c1'
    rw [HPP.out.2.1] at c1'
    clear hk3 hg3 hz3 htk
    refine Ord.nx_end ?_
    go_wp2_with fail
    clear c1' c0 c1
    go_loopw [4] (fun iv wr => RootR w ps iv wr) (fun iv _ => ((intOf iv) + 1).toNat)
    case atStart => exact HR0.out
    case round =>
      obtain ⟨q, hq, rfl, hk1, hk2, hbw⟩ := hrel
      have HR := Lib.hid (⟨hq, hk1, hk2, hbw⟩ : _ ∧ _ ∧ _ ∧ _)
      have c1 := (HKW.out.below_ hbw).cell 1
      simp at c1
      rw [HPP.out.2.1] at c1
      clear hk1 hk2
      by_cases hq0 : q = 0
      · have hneg : ¬ (0 : Int) ≤ (q : Int) - 1 := by omega
        have HE : Hid (Blk wr (w.heap.size + 1) 44 (cellsOf (topM ps))) := Lib.hid (by rw [HT.out]; have := HR.out.2.1; rw [hq0] at this; exact this)
        clear hq0 hq hbw
        go_wp2_with (first
          | (refine wpList_load_hash (op := ⟨some 42, _, _, _, _, _⟩) rfl (.tmp 3) rfl (w.heap.size + 1) _ (topM ps) rfl HE.out (topM_len HP.out.2) ?_)
          | (refine wpList_store_hash rfl (.tmp 2) (.tmp 42) rfl w.heap.size _ z32 (topM ps) rfl rfl HR.out.2.2.1 rfl (topM_len HP.out.2) ?_
             intro w9 hk9 hg9 hz9))
        have HB9 := Lib.hid (HR.out.2.2.2.grown hg9 HR.out.2.2.2.size (fun k hk => by injection hk with hk; omega))
        have hld := load_hash hk9 (topM_len HP.out.2)
        refine bodyPost_ret (v := .agg (cellsOf (topM ps))) ?_ rfl ⟨rfl, HB9.out⟩
        simp [results, Tryd.results49, asAddr, hld]
      · obtain ⟨j, hj⟩ : ∃ j, q = j + 1 := ⟨q - 1, by omega⟩
        subst hj
        have hpos : (0 : Int) ≤ (((j + 1 : Nat) : Int) - 1) := by omega
        have hpos2 : (0 : Int) ≤ (j : Int) := by omega
        have hjj : (((j + 1 : Nat) : Int) - 1) = (j : Int) := by omega
        rw [hjj]
        obtain ⟨pj, hpj⟩ : ∃ p, ps[j]? = some p := ⟨_, List.getElem?_eq_getElem (by omega)⟩
        have hjk : j < k + 1 := by have := HPP.out.2.1; omega
        have hplj : pj.length = 32 := HP.out.2 pj (List.mem_of_getElem? hpj)
        have hvw : Vec wr F 44 32 (.slice (some ⟨gp, 0, none⟩) (k + 1) cap) (k + 1) (flatH ps) := by
          have := HVW.out.below hbw
          rwa [HPP.out.2.1] at this
        have HRG := Lib.hid (hvw.range (j * 32) (pj.map B8) (flatH_get HP.out.2 hpj))
        have hwj : IntKind.i64.wrap ((j : Int) - 1) = (j : Int) - 1 := IntWalk.i64_in _ (by omega)
        have htl : (topG (ps.drop (j + 1))).length = 32 := topG_len (by
          intro e
          have := congrArg List.length e
          rw [List.length_drop] at this
          simp at this
          omega) (fun x hx => HP.out.2 x (List.mem_of_mem_drop hx))
        have hbd : Below wr.heap.size wr wr.drew := below_drewN (Below.refl _ _) 1
        have HND := Lib.hid (node_any wr.drew pj (topG (ps.drop (j + 1))) hplj htl ((HKT.out.below hbw hgk).below hbd (by have := hbw.size; omega)) (by show _ < wr.heap.size; have := hbw.size; omega))
        have HJ := Lib.hid (⟨hpj, hplj, htl, hq⟩ : _ ∧ _ ∧ _ ∧ _)
        have HBD := Lib.hid hbd
        clear hq0 hq hbw hvw hbd hpj
        go_wp2_with fail
        refine Ord.region_ord [] [0, 1, 2, 3, 4, 5, 6, 7, 8, 9] (by kernel_rfl) (by kernel_rfl) (by kernel_rfl) (by kernel_rfl) (Ord.ord_all [_, _, _, _, _, _, _, _, _, _] rfl (by kernel_rfl) ?_)
        go_wp2_with (first
          | (refine wpList_load_mid (op := ⟨some 39, _, _, _, _, _⟩) rfl 44 (.tmp 38) rfl gp (j * 32) rfl (pj.map B8) _ (show World.rangeAt _ _ _ _ from HRG.out) hashTy rfl (by rw [hash_size, List.length_map, HJ.out.2.1]) ?_)
          | (refine wpList_load_hash (op := ⟨some 40, _, _, _, _, _⟩) rfl (.tmp 3) rfl (w.heap.size + 1) _ (topG (ps.drop (j + 1))) rfl (HR.out.2.1.drew) HJ.out.2.2.1 ?_))
        refine HND.out.mono ?_
        rintro e w4 ⟨rfl, hb4⟩
        have hb4' : Below wr.heap.size wr w4 := HBD.out.trans hb4
        have HW4 := Lib.hid (⟨HR.out.2.1.below_ hb4', HR.out.2.2.1.below_ hb4', HR.out.2.2.2.trans (hb4'.mono HR.out.2.2.2.size)⟩ : _ ∧ _ ∧ _)
        clear hb4 hb4' HND
        go_wp2_with
          (refine wpList_store_hash rfl (.tmp 3) (.tmp 41) rfl (w.heap.size + 1) _ (topG (ps.drop (j + 1))) (nodeM pj (topG (ps.drop (j + 1)))) rfl rfl HW4.out.1 HJ.out.2.2.1 (nodeM_len _ _) ?_
           intro w5 hk5 hg5 hz5)
        have HW5 := Lib.hid (⟨hk5, HW4.out.2.1.grown hg5 (by simp), HW4.out.2.2.grown hg5 HW4.out.2.2.size (fun x e => by injection e with e; omega)⟩ : _ ∧ _ ∧ _)
        clear hk5 hg5 hz5
        refine Ord.nx_end ?_
        go_wp2_with fail
        go_roundw
        case rel =>
          have hqq := HJ.out.2.2.2
          refine ⟨j, by omega, rfl, ?_, HW5.out.2.1, HW5.out.2.2⟩
          rw [topG_drop HJ.out.1 hqq]
          exact HW5.out.1
        case measure => simp [intOf]
end Go.Proofs.YtloffgoenaomkaaDoor.Sha
