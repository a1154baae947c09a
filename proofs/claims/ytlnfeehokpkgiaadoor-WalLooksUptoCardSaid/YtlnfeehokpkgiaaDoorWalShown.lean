/- The law's 'shown': the document's examples. -/
import Derived.Test.YtlnfeehokpkgiaaDoorFold26
namespace Go.Proofs.YtlnfeehokpkgiaaDoor.Wal
open Go Go.RowKit Mem Pl Disk Crc _root_.Go.Proofs.YtlnfeehokpkgiaaDoor.Frame
/-- A row in a block. -/
theorem rows_of {w : World} {g : Nat} {t : TypeId} {cs : Array Value} {l : List (List UInt8)} (hb : Blk w g t cs) (h : ∀ (i : Nat) (b : List UInt8), l[i]? = some b → ∃ B c, cs[i]? = some (.slice B b.length c) ∧ BAt w B b) : RowsAt w (some ⟨g, 0, none⟩) l := fun i b hi => by
  obtain ⟨B, c, h1, h2⟩ := h i b hi
  refine ⟨_, B, c, rfl, ?_, h2⟩
  rw [add_off, hb.cell]
  simpa using h1
/-- Two records of one byte each. -/
theorem lit_two (w : World) (x y : UInt8) (t t1 t2 : TypeId) :
    RowsAt (((w.alloc (.cells #[.int .u8 (x.toNat : Int)] t)).alloc (.cells #[.int .u8 (y.toNat : Int)] t1)).alloc (.cells #[.slice (some ⟨w.heap.size, 0, none⟩) 1 1, .slice (some ⟨w.heap.size + 1, 0, none⟩) 1 1] t2)) (some ⟨w.heap.size + 1 + 1, 0, none⟩) [[x], [y]] := by
  refine rows_of (Blk.new_at _ _ (by simp) _ _) fun i b hi => ?_
  have h1 : BAt (w.alloc (.cells #[.int .u8 (x.toNat : Int)] t)) (some ⟨w.heap.size, 0, none⟩) [x] := BAt.new _ _ _ _ rfl
  have h2 : BAt ((w.alloc (.cells #[.int .u8 (x.toNat : Int)] t)).alloc (.cells #[.int .u8 (y.toNat : Int)] t1)) (some ⟨w.heap.size + 1, 0, none⟩) [y] := BAt.new_at _ _ _ _ _ (by simp) rfl
  rcases i with _ | _ | i
  · simp at hi
    subst hi
    exact ⟨_, _, rfl, (h1.below (below_al' _)).below (below_al' _)⟩
  · simp at hi
    subst hi
    exact ⟨_, _, rfl, h2.below (below_al' _)⟩
  · simp at hi
theorem lit_one (w : World) (x : UInt8) (t t2 : TypeId) :
    RowsAt ((w.alloc (.cells #[.int .u8 (x.toNat : Int)] t)).alloc (.cells #[.slice (some ⟨w.heap.size, 0, none⟩) 1 1] t2)) (some ⟨w.heap.size + 1, 0, none⟩) [[x]] := by
  refine rows_of (Blk.new_at _ _ (by simp) _ _) fun i b hi => ?_
  have h1 : BAt (w.alloc (.cells #[.int .u8 (x.toNat : Int)] t)) (some ⟨w.heap.size, 0, none⟩) [x] := BAt.new _ _ _ _ rfl
  rcases i with _ | i
  · simp at hi
    subst hi
    exact ⟨_, _, rfl, h1.below (below_al' _)⟩
  · simp at hi
theorem lit_nils (w : World) (k : Nat) (t : TypeId) : RowsAt (w.alloc (.cells (Array.replicate k (.slice none 0 0)) t)) (some ⟨w.heap.size, 0, none⟩) (List.replicate k []) := by
  refine rows_of (Blk.new _ _ _) fun i b hi => ?_
  rw [List.getElem?_replicate] at hi
  split at hi
  · rename_i h
    cases hi
    exact ⟨none, 0, by simp [h], BAt.nil_ _ _⟩
  · cases hi
/-- A row of transactions in a block. -/
theorem txs_of {w : World} {g : Nat} {t : TypeId} {cs : Array Value} {l : List Tx} (hb : Blk w g t cs) (h : ∀ (i : Nat) (tx : Tx), l[i]? = some tx → ∃ B c, cs[i]? = some (.slice B tx.length c) ∧ RowsAt w B tx) : TxRows w (some ⟨g, 0, none⟩) l := fun i b hi => by
  obtain ⟨B, c, h1, h2⟩ := h i b hi
  refine ⟨_, B, c, rfl, ?_, h2⟩
  rw [add_off, hb.cell]
  simpa using h1
theorem lit_m (w : World) (x y : UInt8) (t t1 t2 t3 t4 : TypeId) :
    TxRows (((((w.alloc (.cells #[.int .u8 (x.toNat : Int)] t)).alloc (.cells #[.int .u8 (y.toNat : Int)] t1)).alloc (.cells #[.slice (some ⟨w.heap.size, 0, none⟩) 1 1, .slice (some ⟨w.heap.size + 1, 0, none⟩) 1 1] t2)).alloc (.cells #[] t3)).alloc
      (.cells #[.slice (some ⟨w.heap.size + 1 + 1, 0, none⟩) 2 2, .slice (some ⟨w.heap.size + 1 + 1 + 1, 0, none⟩) 0 0] t4)) (some ⟨w.heap.size + 1 + 1 + 1 + 1, 0, none⟩) [[[x], [y]], []] := by
  refine txs_of (Blk.new_at _ _ (by simp) _ _) fun i b hi => ?_
  rcases i with _ | _ | i
  · simp at hi
    subst hi
    exact ⟨_, _, rfl, ((lit_two w x y t t1 t2).below (below_al' _)).below (below_al' _)⟩
  · simp at hi
    subst hi
    exact ⟨_, _, rfl, fun i b hb => by simp at hb⟩
  · simp at hi
theorem run_mk17 (w : World) : (Instr.makeSlice 42 (.int .i64 17) (.int .i64 17)).run Tryd.prog w = .ok (.slice (some ⟨w.heap.size, 0, none⟩) 17 17) (w.alloc (.cells (Array.replicate 17 (.slice none 0 0)) 32)) := by
  obtain ⟨i, hi, hz, hs, hby⟩ := rowsTy.info
  have hr := run_make (P := Tryd.prog) w 42 32 i _ rowsTy.ht hi hz .i64 .i64 17 17 (by omega) (by omega) (by rw [hby]; omega) (by omega)
  simp only [hs] at hr
  have hcells : madeCells (Value.slice none 0 0).cells ((17 : Int).toNat * 1) = Array.replicate 17 (.slice none 0 0) := by
    apply Array.ext'
    rw [show (Value.slice none 0 0).cells = #[Value.slice none 0 0] from rfl, toList_madeCells_one]
    rfl
  rw [hcells] at hr
  exact hr
theorem below3 (w : World) (x y z : Obj) : Below w.heap.size w (((w.alloc x).alloc y).alloc z) := (below_al' _).trans (((below_al' _).trans ((below_al' _).mono (by simp))).mono (by simp))
theorem below5 (w : World) (x y z u v : Obj) : Below w.heap.size w (((((w.alloc x).alloc y).alloc z).alloc u).alloc v) := (below3 w x y z).trans (((below_al' _).trans ((below_al' _).mono (by simp))).mono (by simp; omega))
theorem below2 (w : World) (x y : Obj) : Below w.heap.size w ((w.alloc x).alloc y) := (below_al' _).trans ((below_al' _).mono (by simp))
section
variable {B : Nat} {w w1 w' : World} {F K : Nat → Prop} {a n dev N g : Nat} {pm : PM} {H : List (List UInt8)} {G E nx : Nat} {txs : List Tx} {tx : Tx} {e : Ending}
theorem ApdZ.of_below (h : ApdZ B w1 F K a pm n dev N H G E nx txs g tx e w') (hb : Below w.heap.size w w1) : ApdZ B w F K a pm n dev N H G E nx txs g tx e w' := by
  obtain ⟨F', pm', hf, h⟩ := h
  exact ⟨F', pm', hf.of_below hb, h⟩
theorem ApdZ.long (h : ApdZ B w F K a pm n dev N H G E nx txs g tx e w') (hf : longM tx = true) :
    e = .returned (.int .i64 5) ∧ ∃ F' pm', FrD B w F K a pm (n + 25) dev F' K pm' w' ∧ Onz B w' F' K a pm' (n + 25) dev N H G E G nx txs := by
  obtain ⟨F', pm', hfr, ⟨h1, h2, h3, h4⟩ | ⟨h1, _⟩ | ⟨h1, _⟩⟩ := h
  · exact ⟨h2, F', pm', hfr, h3⟩
  · rw [hf] at h1
    cases h1
  · rw [(fitsM_true h1).1] at hf
    cases hf
/-- What fits is appended. -/
theorem ApdZ.fits (h : ApdZ B w F K a pm n dev N H G E nx txs g tx e w') (hf : fitsM N nx tx = true) {nx' : Nat} (hnx : nx + partsM (encM tx) = nx') :
    e = .returned (.int .i64 0) ∧ ∃ F' pm' H', FrD B w F K a pm (n + 25) dev F' K pm' w' ∧ Onz B w' F' K a pm' (n + 25) dev N H' G E G nx' (txs ++ [tx]) ∧ WalB w' g a dev N ⟨G, E, nx', (txs ++ [tx]).length + 1⟩ := by
  obtain ⟨F', pm', hfr, ⟨h1, _⟩ | ⟨_, h1, _⟩ | ⟨_, h1, H', h2, h3⟩⟩ := h
  · rw [(fitsM_true hf).1] at h1
    cases h1
  · rw [hf] at h1
    cases h1
  · rw [hnx] at h2 h3
    exact ⟨h1, F', pm', H', hfr, h2, h3⟩
end
def txAB : Tx := [[97], [98]]
theorem ab_fits : fitsM 64 2 txAB = true := by decide +kernel
theorem ab_nx : 2 + partsM (encM txAB) = 3 := by decide +kernel
theorem nil_fits : fitsM 64 3 [] = true := by decide +kernel
theorem nil_nx : 3 + partsM (encM []) = 4 := by decide +kernel
theorem long17 : longM (List.replicate 17 []) = true := by decide +kernel
theorem c_fits : fitsM 64 4 [[99]] = true := by decide +kernel
set_option maxRecDepth 100000 in
set_option maxHeartbeats 16000000 in
theorem shown_any (w : World) (ht : Tab w) (hgc : 0 < w.heap.size) :
    Calls Tryd.prog 10 #[] w fun e w' => e = .returned (.bool true) ∧ Below w.heap.size w w' := by
  have HMD := Lib.hid (made_any w 1 64 (by omega) (by omega) (by omega) (by omega))
  have HT := Lib.hid ht
  clear ht
  go_enter Tryd.func10, Tryd.ntmps10
  go_wp2_with fail
  refine HMD.out.mono ?_
  rintro e w1 ⟨a, rfl, hp, hb1⟩
  have HB1 := Lib.hid hb1
  have hst1 : St w.heap.size w1 (New w w1) a (walPM 1 64) 0 := St.new hp (Nat.le_refl _) (walPM_new (by omega) (by omega) (by omega) (by omega))
  have hd1 := walPM_disk 1 64 0 (by omega)
  have HS1 := Lib.hid hst1
  have HOP := Lib.hid (open_on hst1 hd1 hb1.size (by omega) rfl (by omega) (HT.out.below hb1 hgc) hgc)
  have HD1 := Lib.hid hd1
  clear hp hb1 hst1 hd1 HMD
  go_wp2_with fail
  refine HOP.out.mono ?_
  rintro e w2 ⟨F2, pm2, G2, E2, hf2, hG2, hE2, h2⟩
  rw [virt_nil, (blank_rep (by omega) (by omega)).newest] at hG2
  rcases h2 with ⟨_, rfl, hd2, hon2⟩ | ⟨hng, _⟩
  rotate_left
  · exact absurd (.inl hG2) hng
  have hfd2 := hf2.desk (K := fun _ => False)
  have hk1 : KOk w.heap.size w1 (New w w1) (fun _ => False) := fun _ h => h.elim
  have hst1 := HS1.out
  have HB2 := Lib.hid (HB1.out.trans (hfd2.lows hst1 hk1 HB1.out.size))
  have hfu2 := hfd2.fuse rfl
  have HFM := Lib.hid (onz_format (K := fun _ => False) hfd2.st hd2 hon2 hfu2 (fun _ h => h.elim) HB2.out.size (HT.out.below HB2.out hgc) hgc (by omega) (by omega))
  have HX2 := Lib.hid (⟨hfd2.st, HB2.out.size⟩ : _ ∧ _)
  clear hf2 hd2 hon2 hfd2 hk1 hst1 hG2 hE2 hfu2 HOP
  go_wp2_with fail
  refine HFM.out.mono ?_
  rintro e w3 ⟨F3, pm3, rfl, hf3, x3⟩
  have HB3 := Lib.hid (HB2.out.trans (hf3.lows HX2.out.1 (fun _ h => h.elim) HX2.out.2))
  have HX3 := Lib.hid x3
  have HOP := Lib.hid (x3.open_ (by omega) (by omega))
  clear hf3 x3 HFM
  go_wp2_with fail
  refine HOP.out.mono ?_
  rintro e w4 ⟨F4, pm4, H4, g4, A4, c4, rfl, hf4, x4, hw4, _, _⟩
  have HB4 := Lib.hid (HB3.out.trans (hf4.lows HX3.out.st HX3.out.kok HX3.out.size))
  have HX4 := Lib.hid x4
  have HW4 := Lib.hid hw4
  clear hf4 x4 hw4 HOP
  go_wp2_with fail
  have hb5 := below3 w4 (.cells #[.int .u8 97] 5) (.cells #[.int .u8 98] 5) (.cells #[.slice (some ⟨w4.heap.size, 0, none⟩) 1 1, .slice (some ⟨w4.heap.size + 1, 0, none⟩) 1 1] 32)
  have hap := (HX4.out.below hb5).append (by omega) (HW4.out.below hb5) (.inr rfl) (nt := 2) (c := 2) (lit_two w4 97 98 5 5 32) rfl (by omega) (by decide)
  have HB5 := Lib.hid hb5
  refine hap.mono ?_
  rintro e w5 h
  obtain ⟨rfl, F5, pm5, H5, hf5, x5, hw5⟩ := (ApdZ.of_below h HB5.out).fits ab_fits ab_nx
  have HB5 := Lib.hid (HB4.out.trans (hf5.lows HX4.out.st HX4.out.kok HX4.out.size))
  have hx6 := x5.append (by omega) hw5 (.inr rfl) (A := none) (nt := 0) (c := 0) (tx := []) (fun i b hb => by simp at hb) rfl (by omega) (by decide)
  have HX6 := Lib.hid hx6
  have HX5 := Lib.hid x5
  clear h hap hb5 hf5 x5 hw5 hx6
  go_wp2_with fail
  refine HX6.out.mono ?_
  rintro e w6 h
  obtain ⟨rfl, F6, pm6, H6, hf6, x6, hw6⟩ := h.fits nil_fits nil_nx
  have HB6 := Lib.hid (HB5.out.trans (hf6.lows HX5.out.st HX5.out.kok HX5.out.size))
  have hb7 := below_al' (w := w6) (.cells (Array.replicate 17 (.slice none 0 0)) 32)
  have hx7 := (x6.below hb7).append (by omega) (hw6.below hb7) (.inr rfl) (nt := 17) (c := 17) (lit_nils w6 17 32) (by simp) (by omega) (by decide)
  have HB7 := Lib.hid hb7
  have HX7 := Lib.hid hx7
  have HX6 := Lib.hid x6
  have hmk := run_mk17 w6
  have HF6 := Lib.hid hf6
  clear h hf6 x6 hw6 hx7 hb7
  go_wp2_with fail
  refine HX7.out.mono ?_
  rintro e w7 h
  obtain ⟨rfl, F7, pm7, hf7, x7⟩ := (h.of_below HB7.out).long long17
  have HB7 := Lib.hid (HB6.out.trans (hf7.lows HX6.out.st HX6.out.kok HX6.out.size))
  have HX7 := Lib.hid x7
  have HOP := Lib.hid (x7.open_ (by omega) (by omega))
  clear h hmk hf7 x7
  go_wp2_with fail
  refine HOP.out.mono ?_
  rintro e w8 ⟨F8, pm8, H8, g8, A8, c8, rfl, hf8, x8, hw8, ht8, _⟩
  have HB8 := Lib.hid (HB7.out.trans (hf8.lows HX7.out.st HX7.out.kok HX7.out.size))
  have HX8 := Lib.hid x8
  have HW8 := Lib.hid hw8
  have HM8 := Lib.hid ht8
  clear hf8 x8 hw8 ht8 HOP
  go_wp2_with fail
  have hb9 := below5 w8 (.cells #[.int .u8 97] 5) (.cells #[.int .u8 98] 5) (.cells #[.slice (some ⟨w8.heap.size, 0, none⟩) 1 1, .slice (some ⟨w8.heap.size + 1, 0, none⟩) 1 1] 32) (.cells #[] 32)
    (.cells #[.slice (some ⟨w8.heap.size + 1 + 1, 0, none⟩) 2 2, .slice (some ⟨w8.heap.size + 1 + 1 + 1, 0, none⟩) 0 0] 42)
  have hM8 : TxsAt w8 (Calm w.heap.size F8 fun k => (False ∨ k = g4) ∨ k = g8) [[[97], [98]], []] (.slice A8 2 c8) := HM8.out
  have hm9 := hM8.below hb9
  obtain ⟨A', c', e8, hr9⟩ := hm9.rows
  injection e8 with e81 e8a e8b
  clear e8a e8b
  rw [← e81] at hr9
  clear e81
  have HSM := Lib.hid (same_any _ A8 _ 2 c8 2 2 _ _ hr9 (lit_m w8 97 98 5 5 32 32 42) rfl rfl (by omega) (by decide))
  have HM9 := Lib.hid hm9
  have HB9 := Lib.hid hb9
  clear hm9 hb9 hr9 hM8
  refine HSM.out.mono ?_
  rintro e w9 ⟨rfl, hb9⟩
  rw [show decide (([[[97], [98]], []] : List Tx) = [[[97], [98]], []]) = true from by decide]
  have hb89 := HB9.out.trans (hb9.mono HB9.out.size)
  have x9 := HX8.out.below hb89
  have HX9 := Lib.hid x9
  have HM9 := Lib.hid (HM9.out.below hb9)
  have HW9 := Lib.hid (HW8.out.below hb89)
  have HB9 := Lib.hid (HB8.out.trans (hb89.mono HB8.out.size))
  have HFU := Lib.hid (x9.st.setFuse x9.size 0 (by omega))
  clear hb9 hb89 x9 HSM
  go_wp2_with fail
  refine HFU.out.mono ?_
  rintro e w10 ⟨rfl, hs10, hm10⟩
  have hfe10 : FrE w.heap.size w9 F8 (fun k => (False ∨ k = g4) ∨ k = g8) a pm8 _ 0 (Grow F8 w9 w10) (fun k => (False ∨ k = g4) ∨ k = g8) (pm8.setFuse 0) w10 := ⟨grow_new, fun _ h => .inl h, hm10.mono (Nat.le_refl _) fun _ _ h => .inl h, hs10, fun j N H _ hd => (hd.fuse _).1⟩
  have HF10 := Lib.hid hfe10
  have HB10 := Lib.hid (HB9.out.trans (hfe10.lows HX9.out.st HX9.out.kok HX9.out.size))
  have hkok10 := hfe10.kok HX9.out.kok
  have hb11 := below2 w10 (.cells #[.int .u8 99] 5) (.cells #[.slice (some ⟨w10.heap.size, 0, none⟩) 1 1] 32)
  have hon10 : (pm8.setFuse 0).off = false := (HX9.out.disk.fuse 0).2.trans HX9.out.on
  have hfz10 : (pm8.setFuse 0).fuse = some 0 := by
    unfold PM.setFuse
    rw [if_neg (by rw [HX9.out.on]; decide)]
    rfl
  have hw10 : WalB w10 g8 a 0 64 _ := Blk.mods HW9.out hm10 (Blk.lt HW9.out) (HX9.out.kok g8 (.inr rfl)).2.1
  have hap := append_jr (hs10.below hb11) (HX9.out.disk.fuse 0).1 (Nat.le_trans HB10.out.size hb11.size) (by omega) hon10 HX9.out.jr (hw10.below hb11) (hkok10 g8 (.inr rfl)).2.1 (nt := 1) (c := 1) (lit_one w10 99 5 32) rfl (by omega) (by decide) (HT.out.below (HB10.out.trans (hb11.mono HB10.out.size)) hgc) hgc
  have HAP := Lib.hid hap
  have HFZ := Lib.hid (⟨hfz10, hkok10, hb11⟩ : _ ∧ _ ∧ _)
  clear hs10 hm10 hfe10 hb11 hon10 hfz10 hw10 hap hkok10 HFU
  go_wp2_with fail
  refine HAP.out.mono ?_
  rintro e w12 ⟨F12, pm12, hf12, h12⟩
  obtain ⟨hz1, hz2⟩ := hf12.zero (.inr HFZ.out.1)
  have hd12 := hz2 _ _ _ (HX9.out.disk.fuse 0).1
  have hfd12 := (hf12.desk (K := fun k => (False ∨ k = g4) ∨ k = g8) (.inr rfl)).of_below HFZ.out.2.2
  rcases h12 with ⟨h, _⟩ | ⟨_, h, _⟩ | ⟨_, _, _, _, H', hd', hj'⟩ | ⟨_, rfl, _, hoff12, _⟩
  · exact absurd h (by decide +kernel)
  · rw [c_fits] at h
    cases h
  · exfalso
    have e1 := hd12.dev.symm.trans hd'.dev
    injection e1 with e1
    injection e1 with _ _ e1
    subst e1
    have h1 := (Ends.unique HX9.out.jr.ends hj'.ends).1
    exact absurd (congrArg List.length h1) (by simp)
  have HD12 := Lib.hid (⟨hd12, hfd12.st⟩ : _ ∧ _)
  have HFE12 := Lib.hid (HF10.out.trans hfd12.e)
  have HB12 := Lib.hid (HB9.out.trans (HFE12.out.lows HX9.out.st HX9.out.kok HX9.out.size))
  have HBT := Lib.hid (St.booted (K := fun k => (False ∨ k = g4) ∨ k = g8) (dev := 0) hfd12.st HB12.out.size (by omega) none 0 0 [] (.inl rfl) rfl (fun h => absurd rfl h) (by omega))
  clear hz1 hz2 hd12 hfd12 hf12 hoff12 HAP
  go_wp2_with fail
  refine HBT.out.mono ?_
  rintro e w13 ⟨rfl, hf13⟩
  have hfe13 := HFE12.out.trans hf13.e
  have hd13 : Disk (pm12.boot []) 0 64 H8 [] := by
    obtain ⟨vs, h1, h2⟩ := HD12.out.1.boot []
    rw [List.sublist_nil.1 h2] at h1
    exact h1
  have HB13 := Lib.hid (HB9.out.trans (hfe13.lows HX9.out.st HX9.out.kok HX9.out.size))
  have x13 : Onz w.heap.size w13 _ (fun k => (False ∨ k = g4) ∨ k = g8) a (pm12.boot []) _ 0 64 H8 _ _ _ _ _ := ⟨hf13.st, hd13, rfl, rfl, HX9.out.jr, hfe13.kok HX9.out.kok, HB13.out.size, HT.out.below HB13.out hgc, hgc⟩
  have HX13 := Lib.hid x13
  have HM13 := Lib.hid (hfe13.calm HM9.out)
  have HOP := Lib.hid (x13.open_ (by omega) (by omega))
  clear hf13 hfe13 hd13 x13 HBT
  go_wp2_with fail
  refine HOP.out.mono ?_
  rintro e w14 ⟨F14, pm14, H14, g14, A14, c14, rfl, hf14, x14, hw14, ht14, _⟩
  have hm14 := hf14.calm HM13.out
  have HB14 := Lib.hid (HB13.out.trans (hf14.lows HX13.out.st HX13.out.kok HX13.out.size))
  obtain ⟨A', c', e8, hr14⟩ := hm14.rows
  injection e8 with e81 e8a e8b
  clear e8a e8b
  rw [← e81] at hr14
  clear e81
  obtain ⟨A', c', e8, hq14⟩ := ht14.rows
  injection e8 with e82 e8a e8b
  clear e8a e8b
  rw [← e82] at hq14
  clear e82
  have hsm : Calls Tryd.prog 18 #[.slice A8 2 c8, .slice A14 2 c14] w14 fun e w' => e = .returned (.bool true) ∧ Below w14.heap.size w14 w' := by
    refine (same_any w14 A8 A14 2 c8 2 c14 _ _ hr14 hq14 rfl rfl (by omega) (by decide)).mono ?_
    rintro e w' ⟨h1, h2⟩
    exact ⟨h1.trans (by rw [decide_eq_true (by rfl)]), h2⟩
  have HSM := Lib.hid hsm
  have HX14 := Lib.hid x14
  have HW14 := Lib.hid hw14
  clear hf14 x14 hw14 ht14 hm14 hr14 hq14 hsm HOP
  go_wp2_with fail
  refine HSM.out.mono ?_
  rintro e w15 ⟨rfl, hb15⟩
  have x15 := HX14.out.below hb15
  have HX15 := Lib.hid x15
  have HB15 := Lib.hid (HB14.out.trans (hb15.mono HB14.out.size))
  have HTR := Lib.hid (x15.trunc (by omega) (by omega) (HW14.out.below hb15) (.inr rfl))
  clear hb15 x15 HSM
  go_wp2_with fail
  refine HTR.out.mono ?_
  rintro e w16 ⟨F16, pm16, H16, rfl, hf16, x16, _⟩
  have HB16 := Lib.hid (HB15.out.trans (hf16.lows HX15.out.st HX15.out.kok HX15.out.size))
  have HX16 := Lib.hid x16
  have HOP := Lib.hid (x16.open_ (by omega) (by omega))
  clear hf16 x16 HTR
  go_wp2_with fail
  refine HOP.out.mono ?_
  rintro e w17 ⟨F17, pm17, H17, g17, A17, c17, rfl, hf17, _, _, _, _⟩
  have HB17 := Lib.hid (HB16.out.trans (hf17.lows HX16.out.st HX16.out.kok HX16.out.size))
  clear hf17 HOP
  go_wp2_with fail
  go_ret
  exact ⟨rfl, HB17.out⟩
end Go.Proofs.YtlnfeehokpkgiaaDoor.Wal
