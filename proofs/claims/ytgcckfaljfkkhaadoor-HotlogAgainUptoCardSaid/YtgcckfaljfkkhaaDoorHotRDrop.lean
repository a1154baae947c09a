/- The reference's 'Drop'. -/
import Derived.Test.YtgcckfaljfkkhaaDoorHotRAdd
namespace Go.Proofs.YtgcckfaljfkkhaaDoor.Hot
open Go Go.RowKit Mem Pl
/-- Where a cut of rows begins. -/
def cutS (size : Nat) (A : Option Addr) (m l : Nat) : Option Addr := if m = l then A else A.map (·.add (l * size))
theorem run_cutT_l {P : Program} {t e : TypeId} {size bytes : Nat} {z : Value} (T : ElTy P t e size bytes z) (A : Option Addr) (n cap : Nat) (kl : IntKind) (L : Int) (l : Nat) (hL : L = (l : Int)) (hl : l ≤ n) (W : World) :
    (Instr.sliceAt t (.slice A n cap) (some (.int kl L)) none none).run P W = .ok (.slice (cutS size A cap l) (n - l) (cap - l)) W := by
  subst hL
  obtain ⟨i, hi, hz, hs, hby⟩ := T.info
  simp [Instr.sliceAt, Instr.slice, run_underlying T.ht, Instr.sliceBounds, run_sliceBound W kl (l : Int) n .sliceB (by omega) (by omega), sizeOf, typeInfo, hi, hs, cutS]
theorem run_cutT_h {P : Program} {t e : TypeId} {size bytes : Nat} {z : Value} (T : ElTy P t e size bytes z) (A : Option Addr) (n cap : Nat) (kh : IntKind) (H : Int) (h : Nat) (hH : H = (h : Int)) (hh : h ≤ cap) (W : World) :
    (Instr.sliceAt t (.slice A n cap) none (some (.int kh H)) none).run P W = .ok (.slice A h cap) W := by
  subst hH
  obtain ⟨i, hi, hz, hs, hby⟩ := T.info
  have hA : ¬ cap = 0 → A.map (fun x => x.add 0) = A := fun _ => add_zero_map A
  simp [Instr.sliceAt, Instr.slice, run_underlying T.ht, Instr.sliceBounds, run_sliceBound W kh (h : Int) cap .sliceAcap (by omega) (by omega), sizeOf, typeInfo, hi]
  exact hA
theorem vec_head {w : World} {F : Nat → Prop} {e : TypeId} {size n c g : Nat} {xs : List Value} (h : Vec w F e size (.slice (some ⟨g, 0, none⟩) n c) n xs) (k : Nat) : ∀ j u, (xs.take (k * size))[j]? = some u → w.cell? ((⟨g, 0, none⟩ : Addr).add j) = some u := fun j u hu => by
  have e : (⟨g, 0, none⟩ : Addr).add j = ⟨g, j, none⟩ := by unfold Addr.add; split <;> simp_all
  rw [e]
  rw [List.getElem?_take] at hu
  split at hu
  · exact h.at_ hu
  · cases hu
theorem vec_tail {w : World} {F : Nat → Prop} {e : TypeId} {size n c g : Nat} {xs : List Value} (h : Vec w F e size (.slice (some ⟨g, 0, none⟩) n c) n xs) (k : Nat) (hk : k ≤ n) : ∃ ad, cutS size (some ⟨g, 0, none⟩) c k = some ad ∧ ∀ j u, (xs.drop (k * size))[j]? = some u → w.cell? (ad.add j) = some u := by
  unfold cutS
  split
  · rename_i hc
    refine ⟨_, rfl, fun j u hu => ?_⟩
    have hl := h.len
    have hn : n = k := by
      obtain ⟨A', cap', e, _, ⟨h1, h2⟩ | ⟨g', cur, _, _, _, h1, _⟩⟩ := h
      · omega
      · injection e with _ _ e3; omega
    rw [List.drop_eq_nil_of_le (by rw [hl, hn]; exact Nat.le_refl _)] at hu
    simp at hu
  · refine ⟨_, rfl, fun j u hu => ?_⟩
    rw [List.getElem?_drop] at hu
    have e : ((⟨g, 0, none⟩ : Addr).add (k * size)).add j = ⟨g, k * size + j, none⟩ := by
      unfold Addr.add
      split <;> split <;> simp_all
    rw [e]
    exact h.at_ hu
section
variable {w w' : World} {G : Nat → Prop} {r dev N : Nat} {used used' : List Pc} {bytes bytes' : List (List UInt8)} {U V : Value} {vs vs' : List Value}
theorem RHotC.replU {U' : Value} (x : RHotC w G r dev N used bytes U V vs) (hb : Below w.heap.size w w') (hv : Vec w' (Grow G w w') 36 4 U' used'.length (used'.flatMap (pcCells dev))) :
    RHotC (w'.setCell ⟨r, 2, none⟩ U') (Grow G w w') r dev N used' bytes U' V vs ∧ Blk w' r 62 #[.int .i64 (dev : Int), .int .i64 (N : Int), U, V] ∧ Mods w.heap.size G w (w'.setCell ⟨r, 2, none⟩ U') := by
  have hx := x.below hb
  refine ⟨⟨by simpa using hx.blk.set_ 2 U', .inl x.own, hv.far (p := ⟨r, 2, none⟩) hx.blk (by decide) U', (hx.rows.far (p := ⟨r, 2, none⟩) hx.blk (by decide) U').mono fun g _ hg => .inl hg, fun k b hk => ?_⟩, hx.blk, ((Mods.of_below hb)).setCell (.inl x.own) _⟩
  obtain ⟨v, h1, h2⟩ := hx.bv k b hk
  exact ⟨v, h1, (Vec.far (p := ⟨r, 2, none⟩) h2 hx.blk (by decide) U').mono fun g _ hg => .inl hg⟩
theorem RHotC.replV {V' : Value} (x : RHotC w G r dev N used bytes U V vs) (hb : Below w.heap.size w w') (hv : Vec w' (Grow G w w') 41 1 V' bytes'.length vs') (hbv : ∀ (k : Nat) (b : List UInt8), bytes'[k]? = some b → ∃ k' : Nat, bytes[k']? = some b ∧ vs'[k]? = vs[k']?) :
    RHotC (w'.setCell ⟨r, 3, none⟩ V') (Grow G w w') r dev N used bytes' U V' vs' ∧ Blk w' r 62 #[.int .i64 (dev : Int), .int .i64 (N : Int), U, V] ∧ Mods w.heap.size G w (w'.setCell ⟨r, 3, none⟩ V') := by
  have hx := x.below hb
  refine ⟨⟨by simpa using hx.blk.set_ 3 V', .inl x.own, (hx.uv.far (p := ⟨r, 3, none⟩) hx.blk (by decide) V').mono fun g _ hg => .inl hg, hv.far (p := ⟨r, 3, none⟩) hx.blk (by decide) V', fun k b hk => ?_⟩, hx.blk, ((Mods.of_below hb)).setCell (.inl x.own) _⟩
  obtain ⟨k', h3, h4⟩ := hbv k b hk
  obtain ⟨v, h1, h2⟩ := hx.bv k' b h3
  exact ⟨v, h4.trans h1, (Vec.far (p := ⟨r, 3, none⟩) h2 hx.blk (by decide) V').mono fun g _ hg => .inl hg⟩
theorem erase_map {α : Type} {xs : List α} {ys : List Value} (k i : Nat) (b : α) (h : (xs.eraseIdx k)[i]? = some b) : ∃ k' : Nat, xs[k']? = some b ∧ (ys.eraseIdx k)[i]? = ys[k']? := by
  rw [List.getElem?_eraseIdx] at h
  split at h
  · rename_i hc
    exact ⟨i, h, by rw [List.getElem?_eraseIdx, if_pos hc]⟩
  · rename_i hc
    exact ⟨i + 1, h, by rw [List.getElem?_eraseIdx, if_neg hc]⟩
end
theorem rows_one {w : World} {G : Nat → Prop} {r dev N : Nat} {used : List Pc} {bytes : List (List UInt8)} {U V : Value} {vs : List Value} (x : RHotC w G r dev N used bytes U V vs) : ∀ u ∈ vs, u.oneCell' = true := fun u hu => by
  obtain ⟨i, hi⟩ := List.getElem?_of_mem hu
  have hl := x.rows.len
  have hib : i < bytes.length := by have := (List.getElem?_eq_some_iff.1 hi).1; omega
  obtain ⟨v, h1, h2⟩ := x.bv i _ (List.getElem?_eq_getElem hib)
  rw [hi] at h1
  injection h1 with h1
  subst h1
  obtain ⟨A, c, rfl⟩ := Vec.shape h2
  rfl
theorem drop_first {wA w2 : World} {e : TypeId} {row : Option Nat} (hg : wA.grownBy w2 row) (hr : row = none ∨ ∃ g cs, row = some g ∧ False ∧ wA.heap[g]? = some (Obj.cells cs e (0, 0))) : Below wA.heap.size wA w2 :=
  (Below.refl _ _).grown hg (Nat.le_refl _) fun k hk => by
    rcases hr with rfl | ⟨_, _, _, h, _⟩
    · cases hk
    · cases h
theorem drop_vec {w wA w2 w3 : World} {G : Nat → Prop} {e : TypeId} {size n3 : Nat} {V3 : Value} {xs3 : List Value} {row2 row3 : Option Nat} (hA : Below w.heap.size w wA) (hg2 : wA.grownBy w2 row2) (hr2 : row2 = none ∨ ∃ g cs, row2 = some g ∧ False ∧ wA.heap[g]? = some (Obj.cells cs e (0, 0)))
    (hv3 : Vec w3 (Grow (Grow (fun _ => False) wA w2) w2 w3) e size V3 n3 xs3) (hg3 : w2.grownBy w3 row3) (hr3 : row3 = none ∨ ∃ g cs, row3 = some g ∧ Grow (fun _ => False) wA w2 g ∧ w2.heap[g]? = some (Obj.cells cs e (0, 0))) :
    Below w.heap.size w w3 ∧ Vec w3 (Grow G w w3) e size V3 n3 xs3 := by
  have hb2 : Below w.heap.size w w2 := hA.trans ((drop_first hg2 hr2).mono hA.size)
  refine ⟨hb2.grown hg3 hb2.size fun k hk => ?_, hv3.mono fun g hlt hg => .inr ⟨?_, hlt⟩⟩
  · rcases hr3 with rfl | ⟨g, _, rfl, h, _⟩
    · cases hk
    · injection hk with hk
      subst hk
      rcases h with h | ⟨h, _⟩
      · exact h.elim
      · exact Nat.le_trans hA.size h
  · rcases hg with (h | ⟨h, _⟩) | ⟨h, _⟩
    · exact h.elim
    · exact Nat.le_trans hA.size h
    · exact Nat.le_trans hb2.size h
theorem erase_vec {w : World} {F : Nat → Prop} {e : TypeId} {V : Value} {used : List Pc} {k dev : Nat} (hk : k < used.length) (hv : Vec w F e 4 V (0 + k + (used.length - (k + 1))) ([] ++ (used.flatMap (pcCells dev)).take (k * 4) ++ (used.flatMap (pcCells dev)).drop ((k + 1) * 4))) :
    Vec w F e 4 V (used.eraseIdx k).length ((used.eraseIdx k).flatMap (pcCells dev)) := by
  have h1 : (used.eraseIdx k).length = 0 + k + (used.length - (k + 1)) := by rw [List.length_eraseIdx_of_lt hk]; omega
  have h2 : (used.eraseIdx k).flatMap (pcCells dev) = [] ++ (used.flatMap (pcCells dev)).take (k * 4) ++ (used.flatMap (pcCells dev)).drop ((k + 1) * 4) := by
    rw [List.eraseIdx_eq_take_drop_succ, List.flatMap_append, flat_take, flat_drop, List.nil_append]
  rw [h1, h2]
  exact hv
theorem erase_rows {w : World} {F : Nat → Prop} {e : TypeId} {V : Value} {bytes : List (List UInt8)} {vs : List Value} {k : Nat} (hl : vs.length = bytes.length * 1) (hk : k < bytes.length) (hv : Vec w F e 1 V (0 + k + (bytes.length - (k + 1))) ([] ++ vs.take (k * 1) ++ vs.drop ((k + 1) * 1))) :
    Vec w F e 1 V (bytes.eraseIdx k).length (vs.eraseIdx k) := by
  have h1 : (bytes.eraseIdx k).length = 0 + k + (bytes.length - (k + 1)) := by rw [List.length_eraseIdx_of_lt hk]; omega
  have h2 : vs.eraseIdx k = [] ++ vs.take (k * 1) ++ vs.drop ((k + 1) * 1) := by
    rw [List.eraseIdx_eq_take_drop_succ, List.nil_append, Nat.mul_one, Nat.mul_one]
  rw [h1, h2]
  exact hv
set_option maxRecDepth 100000 in
set_option maxHeartbeats 4000000 in
theorem rdrop_any {w : World} {G : Nat → Prop} {r dev N : Nat} {used : List Pc} {bytes : List (List UInt8)} {U V : Value} {vs : List Value} (x : RHotB w G r dev N used bytes U V vs) (k : Nat) (hk : k < used.length) (hul : used.length ≤ 1000000000) :
    Calls Tryd.prog 41 #[.pointer (some ⟨r, 0, none⟩), .int .i64 (k : Int)] w fun e w' =>
      e = .returned (.tuple #[]) ∧ RHotAt w' (Grow G w w') r dev N (used.eraseIdx k) (bytes.eraseIdx k) ∧ Mods w.heap.size G w w' := by
  have HX := Lib.hid x.toRHotC
  have HEQ := Lib.hid x.eq
  have c2 := x.c2
  have hlr := x.blk.lt
  obtain ⟨AU, cU, rfl⟩ := x.uv.shape
  obtain ⟨AV, cV, rfl⟩ := x.rows.shape
  obtain ⟨gU, cU', curU, eU, _, _, hnc, hcm, _, _⟩ := x.uv.form (by omega)
  obtain ⟨gV, cV', curV, eV, _, _, hncV, hcmV, _, _⟩ := x.rows.form (by have := x.eq; omega)
  injection eU with eU _ eU2
  injection eV with eV _ eV2
  subst eU2 eV2
  have hbl : used.length = bytes.length := x.eq
  have huv := x.uv
  rw [eU] at huv
  have HHU := Lib.hid (vec_head huv k)
  obtain ⟨adU, hadU, htU⟩ := vec_tail huv (k + 1) (by omega)
  rw [← eU] at hadU
  have HAU := Lib.hid eU
  have HAV := Lib.hid eV
  have HTU := Lib.hid htU
  have hwk : IntKind.i64.wrap ((k : Int) + 1) = (k : Int) + 1 := IntWalk.i64_in _ (by omega)
  obtain ⟨TU, hTU⟩ : ∃ T, cutS 4 AU cU (k + 1) = T := ⟨_, rfl⟩
  have hcl := fun W => run_cutT_l (P := Tryd.prog) placeTy AU used.length cU .i64 ((k : Int) + 1) (k + 1) (by omega) (by omega) W
  have hch := fun W => run_cutT_h (P := Tryd.prog) placeTy AU used.length cU .i64 (k : Int) k rfl (by omega) W
  rw [hTU] at hcl hadU
  have HTA := Lib.hid hadU
  clear huv eU eV hTU hbl
  clear x htU hadU
  go_enter Tryd.func41, Tryd.ntmps41
  go_wp2_with fail
  refine Ord.region_ordM [8] [14] [0, 2, 3, 4, 5, 6, 7, 9, 10, 11, 12, 13, 14, 15, 1, 8, 16, 17, 18, 19] (by kernel_rfl) (by kernel_rfl) (by kernel_rfl) (by kernel_rfl) (Ord.ord_run [0, 2, 3, 4, 5, 6, 7, 9, 10, 11, 12, 13] [_, _, _, _, _, _, _, _, _, _, _, _] rfl (by kernel_rfl) ?_)
  go_wp2_with fail
  refine Ord.nx_ord (Ord.ord_pure (.int .i64 ((k : Int) + 1)) rfl (by kernel_rfl) rfl (fun w' => by first | (go_simp; done) | (go_simp; exact hwk)) ?_)
  simp only [Act.put, List.setIfInBounds_toArray]
  refine Ord.ord_run [15, 1] [_, _] rfl (by kernel_rfl) ?_
  go_wp2_with fail
  have hbA : Below w.heap.size w (w.alloc (.cells #[] 36)).drew := (below_al' (w := w) (.cells #[] 36)).drew
  have HBA := Lib.hid hbA
  have HN1 : Hid (∀ j u, ((used.flatMap (pcCells dev)).take (k * 4))[j]? = some u → (w.alloc (.cells #[] 36)).drew.cell? ((⟨gU, 0, none⟩ : Addr).add j) = some u) := Lib.hid fun j u hu => (hbA.cell (cell_lt (HHU.out j u hu))).trans (HHU.out j u hu)
  have HL1 : Hid (((used.flatMap (pcCells dev)).take (k * 4)).length = k * 4) := Lib.hid (by rw [List.length_take, flat_len4]; omega)
  have HL2 : Hid (((used.flatMap (pcCells dev)).drop ((k + 1) * 4)).length = (used.length - (k + 1)) * 4) := Lib.hid (by rw [List.length_drop, flat_len4]; omega)
  have HO1 : Hid (∀ u ∈ used.flatMap (pcCells dev), u.oneCell' = true) := Lib.hid (fun u hu => by
    obtain ⟨y, _, hy⟩ := List.mem_flatMap.1 hu
    exact pc_one dev y u hy)
  have HB1 : Hid (0 + k ≤ maxLen) := Lib.hid (by unfold maxLen; omega)
  have HB2 : Hid (0 + k + (used.length - (k + 1)) ≤ maxLen) := Lib.hid (by unfold maxLen; omega)
  clear hbA hcm hcmV
  refine Ord.nx_ord (Ord.ord_oneM rfl (by kernel_rfl) ?_)
  go_wp2_with
    (refine wpList_append_vec rfl (.tmp 5) (.tmp 11) _ rfl 32 _ placeTy rfl (Vec.nil_ _ (fun _ => False) _ _ (some ⟨w.heap.size, 0, none⟩)) ⟨gU, 0, none⟩ k cU ((used.flatMap (pcCells dev)).take (k * 4)) (congrArg (fun A => Value.slice A k cU) HAU.out) HL1.out HN1.out (fun u hu => HO1.out u (List.mem_of_mem_take hu)) HB1.out (by omega) ?_
     intro W2 w2 row2 hv2 hg2 hr2
     have HV2 := Lib.hid hv2
     have HG2 := Lib.hid hg2
     have HR2 := Lib.hid hr2
     clear hv2 hg2 hr2)
  have hb2 := drop_first HG2.out HR2.out
  have HN2 : Hid (∀ j u, ((used.flatMap (pcCells dev)).drop ((k + 1) * 4))[j]? = some u → w2.cell? (adU.add j) = some u) := Lib.hid fun j u hu => by
    have h := HTU.out j u hu
    have hlt := cell_lt h
    have hb := HBA.out.trans (hb2.mono HBA.out.size)
    exact (hb.cell hlt).trans h
  have HB3 := Lib.hid hb2
  clear hb2
  refine Ord.nx_and HB3.out (Ord.ord_all [_, _, _, _] rfl (by kernel_rfl) ?_)
  obtain ⟨A2, c2', rfl⟩ := HV2.out.shape
  have hlr2 : r < w2.heap.size := Nat.lt_of_lt_of_le hlr (Nat.le_trans HBA.out.size HB3.out.size)
  clear c2 hcl hch hwk
  go_wp2_with
    (refine wpList_append_vec rfl (.tmp 12) (.tmp 19) _ rfl 32 _ placeTy rfl HV2.out adU (used.length - (k + 1)) (cU - (k + 1)) ((used.flatMap (pcCells dev)).drop ((k + 1) * 4)) (congrArg (fun A => Value.slice A (used.length - (k + 1)) (cU - (k + 1))) HTA.out) HL2.out HN2.out (fun u hu => HO1.out u (List.mem_of_mem_drop hu)) HB2.out (by omega) ?_
     intro W3 w3 row3 hv3 hg3 hr3
     obtain ⟨hb3, hv4⟩ := drop_vec (G := G) HBA.out HG2.out HR2.out hv3 hg3 hr3
     have hv5 : Vec w3 (Grow G w w3) 36 4 W3 (used.eraseIdx k).length ((used.eraseIdx k).flatMap (pcCells dev)) := erase_vec hk hv4
     obtain ⟨A5, c5, rfl⟩ := hv5.shape
     obtain ⟨hh1, hh2, hh3⟩ := HX.out.replU hb3 hv5
     have h5 := (hh2.cell 2).trans (show _ = some (Value.slice AU used.length cU) from rfl)
     have z5 := hh2.frozen 2
     have HH1 := Lib.hid hh1
     have HH3 := Lib.hid hh3
     have hsz3 : w3.heap.size = (w3.setCell ⟨r, 2, none⟩ (.slice A5 (used.eraseIdx k).length c5)).heap.size := by simp [World.setCell]
     have HH1 := Lib.hid (HH1.out.mono (G' := Grow G w (w3.setCell ⟨r, 2, none⟩ (.slice A5 (used.eraseIdx k).length c5))) (by intro g _ hg; rcases hg with hg | hg; exact .inl hg; exact .inr (by rw [← hsz3]; exact hg)))
     clear hv3 hg3 hr3 hh1 hh2 hh3 hb3 hv4 hv5 hsz3)
  refine Ord.nx_end ?_
  go_wp2_with fail
  clear h5 z5 HV2 HN2 HB3 HG2 HR2 HN1 HL1 HL2 HO1 HB1 HB2 HBA HTU HTA HHU HAU hlr2 hlr
  generalize w3.setCell ⟨r, 2, none⟩ (.slice A5 (used.eraseIdx k).length c5) = w4 at *
  have hkb : k < bytes.length := by have := HEQ.out; omega
  have hrw := HH1.out.rows
  have hlr := HH1.out.blk.lt
  have c3 := HH1.out.c3
  have HHV := Lib.hid (vec_head (by rw [HAV.out] at hrw; exact hrw) k)
  obtain ⟨adV, hadV, htV⟩ := vec_tail (by rw [HAV.out] at hrw; exact hrw) (k + 1) (by omega)
  rw [← HAV.out] at hadV
  have HTV := Lib.hid htV
  have hvl := hrw.len
  have hwk : IntKind.i64.wrap ((k : Int) + 1) = (k : Int) + 1 := IntWalk.i64_in _ (by omega)
  obtain ⟨TV, hTV⟩ : ∃ T, cutS 1 AV cV (k + 1) = T := ⟨_, rfl⟩
  have hcl := fun W => run_cutT_l (P := Tryd.prog) rrowTy AV bytes.length cV .i64 ((k : Int) + 1) (k + 1) (by omega) (by omega) W
  have hch := fun W => run_cutT_h (P := Tryd.prog) rrowTy AV bytes.length cV .i64 (k : Int) k rfl (by omega) W
  rw [hTV] at hcl hadV
  have HTA := Lib.hid hadV
  have HVL := Lib.hid hvl
  have HO1 : Hid (∀ u ∈ vs, u.oneCell' = true) := Lib.hid (rows_one HH1.out)
  have hblU : bytes.length ≤ 1000000000 := by have := HEQ.out; omega
  clear hrw htV hadV hTV hvl
  refine Ord.region_ordM [8] [14] [0, 2, 3, 4, 5, 6, 7, 9, 10, 11, 12, 13, 14, 15, 1, 8, 16, 17, 18, 19] (by kernel_rfl) (by kernel_rfl) (by kernel_rfl) (by kernel_rfl) (Ord.ord_run [0, 2, 3, 4, 5, 6, 7, 9, 10, 11, 12, 13] [_, _, _, _, _, _, _, _, _, _, _, _] rfl (by kernel_rfl) ?_)
  go_wp2_with fail
  refine Ord.nx_ord (Ord.ord_pure (.int .i64 ((k : Int) + 1)) rfl (by kernel_rfl) rfl (fun w' => by first | (go_simp; done) | (go_simp; exact hwk)) ?_)
  simp only [Act.put, List.setIfInBounds_toArray]
  refine Ord.ord_run [15, 1] [_, _] rfl (by kernel_rfl) ?_
  go_wp2_with fail
  have hbA : Below w4.heap.size w4 (w4.alloc (.cells #[] 41)).drew := (below_al' (w := w4) (.cells #[] 41)).drew
  have HBA := Lib.hid hbA
  have HN1 : Hid (∀ j u, (vs.take (k * 1))[j]? = some u → (w4.alloc (.cells #[] 41)).drew.cell? ((⟨gV, 0, none⟩ : Addr).add j) = some u) := Lib.hid fun j u hu => (hbA.cell (cell_lt (HHV.out j u hu))).trans (HHV.out j u hu)
  have HL1 : Hid ((vs.take (k * 1)).length = k * 1) := Lib.hid (by rw [List.length_take, HVL.out]; omega)
  have HL2 : Hid ((vs.drop ((k + 1) * 1)).length = (bytes.length - (k + 1)) * 1) := Lib.hid (by rw [List.length_drop, HVL.out]; omega)
  have HB1 : Hid (0 + k ≤ maxLen) := Lib.hid (by unfold maxLen; omega)
  have HB2 : Hid (0 + k + (bytes.length - (k + 1)) ≤ maxLen) := Lib.hid (by unfold maxLen; omega)
  clear hbA
  refine Ord.nx_ord (Ord.ord_oneM rfl (by kernel_rfl) ?_)
  go_wp2_with
    (refine wpList_append_vec rfl (.tmp 24) (.tmp 30) _ rfl 24 _ rrowTy rfl (Vec.nil_ _ (fun _ => False) _ _ (some ⟨w4.heap.size, 0, none⟩)) ⟨gV, 0, none⟩ k cV (vs.take (k * 1)) (congrArg (fun A => Value.slice A k cV) HAV.out) HL1.out HN1.out (fun u hu => HO1.out u (List.mem_of_mem_take hu)) HB1.out (by omega) ?_
     intro W2 w5 row2 hv2 hg2 hr2
     have HV2 := Lib.hid hv2
     have HG2 := Lib.hid hg2
     have HR2 := Lib.hid hr2
     clear hv2 hg2 hr2)
  have hb2 := drop_first HG2.out HR2.out
  have HN2 : Hid (∀ j u, (vs.drop ((k + 1) * 1))[j]? = some u → w5.cell? (adV.add j) = some u) := Lib.hid fun j u hu => by
    have h := HTV.out j u hu
    have hlt := cell_lt h
    have hb := HBA.out.trans (hb2.mono HBA.out.size)
    exact (hb.cell hlt).trans h
  have HB3 := Lib.hid hb2
  clear hb2
  refine Ord.nx_and HB3.out (Ord.ord_all [_, _, _, _] rfl (by kernel_rfl) ?_)
  obtain ⟨A2', c2'', rfl⟩ := HV2.out.shape
  have hlr2 : r < w5.heap.size := Nat.lt_of_lt_of_le hlr (Nat.le_trans HBA.out.size HB3.out.size)
  clear c3 hcl hch hwk
  go_wp2_with
    (refine wpList_append_vec rfl (.tmp 31) (.tmp 38) _ rfl 24 _ rrowTy rfl HV2.out adV (bytes.length - (k + 1)) (cV - (k + 1)) (vs.drop ((k + 1) * 1)) (congrArg (fun A => Value.slice A (bytes.length - (k + 1)) (cV - (k + 1))) HTA.out) HL2.out HN2.out (fun u hu => HO1.out u (List.mem_of_mem_drop hu)) HB2.out (by omega) ?_
     intro W3 w6 row3 hv3 hg3 hr3
     obtain ⟨hb3, hv4⟩ := drop_vec (G := Grow G w w4) HBA.out HG2.out HR2.out hv3 hg3 hr3
     have hv5 : Vec w6 (Grow (Grow G w w4) w4 w6) 41 1 W3 (bytes.eraseIdx k).length (vs.eraseIdx k) := erase_rows HVL.out hkb hv4
     obtain ⟨A6, c6, rfl⟩ := hv5.shape
     obtain ⟨hh1, hh2, hh3⟩ := HH1.out.replV hb3 hv5 (fun i b h => erase_map k i b h)
     have h5 := (hh2.cell 3).trans (show _ = some (Value.slice AV bytes.length cV) from rfl)
     have z5 := hh2.frozen 3
     have HH4 := Lib.hid hh1
     have HH6 := Lib.hid hh3
     clear hv3 hg3 hr3 hh1 hh2 hh3 hb3 hv4 hv5)
  refine Ord.nx_end ?_
  go_wp2_with fail
  go_end0
  have hw4 := HH3.out.size
  refine ⟨rfl, ⟨_, _, _, HH4.out.mono fun g hlt hg => ?_, by rw [List.length_eraseIdx_of_lt hk, List.length_eraseIdx_of_lt hkb, HEQ.out]⟩, HH3.out.trans (HH6.out.mono hw4 fun g hlt hg => ?_)⟩
  · rcases hg with (hg | ⟨h6, h7⟩) | ⟨h6, h7⟩
    · exact .inl hg
    · exact .inr ⟨h6, hlt⟩
    · exact .inr ⟨Nat.le_trans hw4 h6, hlt⟩
  · rcases hg with hg | ⟨h6, h7⟩
    · exact hg
    · omega
end Go.Proofs.YtgcckfaljfkkhaaDoor.Hot
