/- The pager's 'read': a superblock read off its sector. -/
import Derived.Test.YtookhagpgkefpaaDoorFold8
import Derived.Test.YtookhagpgkefpaaDoorFold5
namespace Go.Proofs.YtookhagpgkefpaaDoor.Pag
open Go Go.RowKit Mem Pl Disk Crc _root_.Go.Proofs.YtookhagpgkefpaaDoor.Frame
/-- An operation of M whose guard says no. -/
theorem ord_skip {P : Program} {ops : Array Oper} {Q : Exit → Act → World → Prop} {L M : List Nat} {i : Nat} {o : Oper} {r : List Nat} {a : Act} {w : World} (hi : ops[i]? = some o) (hM : M.contains i = true) (hw : Region.wanted o (yielded ops a.tmps) = false)
    (h : Ord.wpOrd P ops (Ord.NP Q) L M r (a.put o.dst undef) w) : Ord.wpOrd P ops (Ord.NP Q) L M (i :: r) a w := by
  unfold Ord.wpOrd
  rw [if_pos hM]
  exact ⟨o, undef, hi, .inr ⟨hw, rfl⟩, h⟩
/-- Operations of M whose guards say no, in a row; their slots are empty. -/
theorem ord_skips {P : Program} {ops : Array Oper} {Q : Exit → Act → World → Prop} {L M : List Nat} {r : List Nat} {a : Act} {w : World} : ∀ (l : List Nat) (lops : List Oper), l.map (ops[·]?) = lops.map some → (l.all fun i => M.contains i) = true → (lops.all fun o => !Region.wanted o (yielded ops a.tmps)) = true → (lops.map fun o => a.put o.dst undef) = (lops.map fun _ => a) →
    Ord.wpOrd P ops (Ord.NP Q) L M r a w → Ord.wpOrd P ops (Ord.NP Q) L M (l ++ r) a w
  | [], [], _, _, _, _, h => h
  | [], _ :: _, hl, _, _, _, _ => by cases hl
  | _ :: _, [], hl, _, _, _, _ => by cases hl
  | i :: l, o :: lops, hl, hM, hw, hp, h => by
    simp only [List.map_cons, List.cons.injEq] at hl hp
    simp only [List.all_cons, Bool.and_eq_true] at hM hw
    refine ord_skip (r := l ++ r) hl.1 hM.1 (by simpa using hw.1) ?_
    rw [hp.1]
    exact ord_skips l lops hl.2 hM.2 hw.2 hp.2 h
/-- Is that sector a superblock? -/
def okSup (b : List UInt8) : Bool := decide (0 < be (b.take 8)) && decide (be (b.take 8) < 9223372036854775808) && decide (be ((b.drop 58).take 4) = (more 0#32 (b.take 58)).toNat)
theorem readSup_ok (b : List UInt8) : readSup b = if okSup b then some (be (b.take 8), be ((b.drop 8).take 2), (b.drop 10).take 48) else none := by
  unfold readSup okSup
  simp [and_assoc]
theorem cells_one (bs : List UInt8) : ∀ v ∈ bs.map B8, v.oneCell' = true := by
  intro v hv
  obtain ⟨b, _, rfl⟩ := List.mem_map.1 hv
  rfl
theorem bits_size : (Tryd.prog.info? 72).map (·.size) = some 48 := by kernel_rfl
theorem load_bits {w : World} {g : Nat} {t : TypeId} {bs : List UInt8} (h : Blk w g t (cellsOf bs)) (h48 : bs.length = 48) : (loadVar 72 ⟨g, 0, none⟩).run Tryd.prog w = .ok (.agg (cellsOf bs)) w :=
  run_loadVar_mid (P := Tryd.prog) w g 0 72 (bs.map B8) _ (blk_range (cs := bs.map B8) h 0 _ fun j v hv => by rw [Nat.zero_add]; exact hv) Tryd.underlying72 rfl (by rw [bits_size]; simp [h48])
theorem sec_len {pm : PM} {dev N : Nat} {H : List (List UInt8)} {ws : Ws} (hd : Disk pm dev N H ws) (hok : pm.Ok) (k : Nat) : (lastAt ws k (H.getD k zeros)).length = 64 := by
  have h := lastW_waits pm.waits dev k (H.getD k zeros)
  rw [show (pm.waits.filter fun x => x.dev == dev).map (fun x => (x.place, x.b)) = ws from hd.ws] at h
  rw [← h]
  refine lastW_len _ _ hok.wlen ?_
  exact hok.at_len hd.dev k
theorem fit_cell {w wr w2 : World} (hb : Below w.heap.size w wr) (hg : wr.grownBy w2 (some w.heap.size)) : Below w.heap.size w w2 :=
  hb.grown hg hb.size (fun k hk => by injection hk with hk; omega)
theorem below_of_row {w w' : World} {r : Nat} (hg : w.grownBy w' (some r)) (hr : r ≤ w.heap.size) : Below r w w' := (Below.refl _ _).grown hg hr (fun k hk => by injection hk with hk; omega)
/-- What 'read' tells of a sector. -/
def supV (b : List UInt8) : Value := .tuple #[.int .u64 (be (b.take 8) : Int), .int .i64 ((be ((b.drop 8).take 2) : Int) - 1), .agg (cellsOf ((b.drop 10).take 48)), .bool (okSup b), .int .i64 0]
set_option maxRecDepth 100000 in
set_option maxHeartbeats 4000000 in
theorem read_on {B : Nat} {w : World} {F : Nat → Prop} {a : Nat} {pm : PM} {n dev N : Nat} {H : List (List UInt8)} {ws : Ws} (hst : St B w F a pm n) (hd : Disk pm dev N H ws) (hn : n ≤ 1000000000) (hon : pm.off = false) (at_ : Nat) (hat : at_ < N)
    (ht : Tab w) (hgc : 0 < w.heap.size) :
    Calls Tryd.prog 33 #[.pointer (some ⟨a, 0, none⟩), .int .i64 (dev : Int), .int .i64 (at_ : Int)] w fun e w' => e = .returned (supV (lastAt ws at_ (H.getD at_ zeros))) ∧ Below w.heap.size w w' := by
  obtain ⟨b, hb⟩ : ∃ b, lastAt ws at_ (H.getD at_ zeros) = b := ⟨_, rfl⟩
  have hrd := hd.read hon hat
  rw [hb] at hrd ⊢
  have hbl := sec_len hd hst.ok at_
  rw [hb] at hbl
  have HBL := Lib.hid hbl
  obtain ⟨use, hU⟩ : ∃ use, (b.drop 10).take 48 = use := ⟨_, rfl⟩
  have hul : use.length = 48 := by rw [← hU]; simp [hbl]
  have H48 := Lib.hid hul
  have HU := Lib.hid hU
  obtain ⟨G, hG⟩ : ∃ G, be (b.take 8) = G := ⟨_, rfl⟩
  obtain ⟨R, hR⟩ : ∃ R, be ((b.drop 8).take 2) = R := ⟨_, rfl⟩
  obtain ⟨S, hS⟩ : ∃ S, be ((b.drop 58).take 4) = S := ⟨_, rfl⟩
  have hGl : G < 18446744073709551616 := by rw [← hG]; have := be_lt (b.take 8); rw [show (b.take 8).length = 8 by simp [hbl]] at this; omega
  have hRl : R < 65536 := by rw [← hR]; have := be_lt ((b.drop 8).take 2); rw [show ((b.drop 8).take 2).length = 2 by simp [hbl]] at this; omega
  have hSl : S < 4294967296 := by rw [← hS]; have := be_lt ((b.drop 58).take 4); rw [show ((b.drop 58).take 4).length = 4 by simp [hbl]] at this; omega
  have HE : Hid (supV b = .tuple #[.int .u64 (G : Int), .int .i64 ((R : Int) - 1), .agg (cellsOf use), .bool (decide (0 < G) && decide (G < 9223372036854775808) && ((S : Int) == U (more 0#32 (b.take 58)))), .int .i64 0]) := Lib.hid (by
    unfold supV okSup
    rw [hG, hR, hS, hU]
    have e : decide (S = (more 0#32 (b.take 58)).toNat) = ((S : Int) == U (more 0#32 (b.take 58))) := by
      rw [Bool.eq_iff_iff, decide_eq_true_iff, beq_iff_eq]
      unfold U
      omega
    rw [e])
  have HG := Lib.hid hG
  have HR := Lib.hid hR
  have HS := Lib.hid hS
  have hb1 := below_al' (w := w) (.cells (cellsOf (List.replicate 48 0)) 72)
  have HK1 := Lib.hid (Blk.new w 72 (cellsOf (List.replicate 48 0)))
  have HB1 := Lib.hid hb1
  have hrc := read_any (hst.below hb1).at_ hst.ok (hst.low hn) (dev : Int) (at_ : Int)
  rw [hrd] at hrc
  have HRC := Lib.hid hrc
  have HT1 := Lib.hid (ht.below hb1 hgc)
  have HST := Lib.hid hst
  have HD := Lib.hid hd
  have hlt1 : w.heap.size < (w.alloc (.cells (cellsOf (List.replicate 48 0)) 72)).heap.size := by simp
  clear hrc hb1 hrd hb ht hst hd hbl hU hul hG hR hS
  rw [HE.out]
  go_enter Tryd.func33, Tryd.ntmps33
  go_wp2_with fail
  change Calls _ _ _ (w.alloc (.cells (cellsOf (List.replicate 48 0)) 72)) _
  generalize w.alloc (.cells (cellsOf (List.replicate 48 0)) 72) = w1 at *
  refine HRC.out.mono ?_
  rintro e w2 ⟨A2, N2, c2, rfl, ho2, hb2⟩
  have hN2 := ho2.len
  obtain rfl : N2 = 64 := by have := HBL.out; simp at hN2; omega
  have hc2 := ho2.cap_le.1
  have HO2 : Hid (Own w2 w1.heap.size 5 A2 64 c2 b) := Lib.hid ho2
  have HB2 := Lib.hid (HB1.out.trans (hb2.mono HB1.out.size))
  have HK2 := Lib.hid (HK1.out.below_ hb2)
  have HT2 := Lib.hid (HT1.out.below hb2 (Nat.lt_of_lt_of_le hgc HB1.out.size))
  clear ho2 hb2 hN2 HK1 HT1 HRC
  go_wp2_with fail
  refine (take_yes A2 b 64 c2 8 w2 HBL.out hc2 (by omega) HO2.out.bat (by omega) (by omega) (by omega)).mono ?_
  rintro e w3 ⟨A3, N3, c3, rfl, ho3, hb3⟩
  obtain rfl : N3 = 56 := by have := ho3.len; rw [List.length_drop, HBL.out] at this; omega
  have hc3 := ho3.cap_le.1
  have HO3 := Lib.hid ho3
  have HO2' := Lib.hid (HO2.out.below hb3)
  have HB3 := Lib.hid (HB2.out.trans (hb3.mono HB2.out.size))
  have HK3 := Lib.hid (HK2.out.below_ hb3)
  have HT3 := Lib.hid (HT2.out.below hb3 (Nat.lt_of_lt_of_le hgc HB2.out.size))
  clear ho3 hb3 HO2 HK2 HT2
  simp only
  rw [HG.out]
  go_wp2_with fail
  refine (take_yes A3 (b.drop 8) 56 c3 2 w3 HO3.out.len hc3 (by omega) HO3.out.bat (by omega) (by omega) (by omega)).mono ?_
  rintro e w4 ⟨A4, N4, c4, rfl, ho4, hb4⟩
  obtain rfl : N4 = 54 := by have := ho4.len; rw [List.length_drop, List.length_drop, HBL.out] at this; omega
  have hc4 := ho4.cap_le.1
  have HO4 : Hid (Own w4 w3.heap.size 5 A4 54 c4 (b.drop 10)) := Lib.hid (by have := ho4; rw [List.drop_drop] at this; exact this)
  have HO2 := Lib.hid (HO2'.out.below hb4)
  have HB4 := Lib.hid (HB3.out.trans (hb4.mono HB3.out.size))
  have HK4 := Lib.hid (HK3.out.below_ hb4)
  have HT4 := Lib.hid (HT3.out.below hb4 (Nat.lt_of_lt_of_le hgc HB3.out.size))
  have hn4 : A4 = none → c4 = 0 := fun h0 => by
    rcases ho4.form with ⟨_, h1, _⟩ | ⟨g, h1, _⟩
    · omega
    · rw [h0] at h1; cases h1
  have HN4 := Lib.hid hn4
  have h13 : w.heap.size < w3.heap.size := HK3.out.lt
  have HN2 : Hid (A2 = none ∨ A2.map (·.block) ≠ some w.heap.size) := Lib.hid (by
    rcases HO2.out.form with ⟨h1, _⟩ | ⟨g, h1, h2, _⟩
    · exact .inl h1
    · refine .inr ?_
      rw [h1]
      intro e
      injection e with e
      have e : g = w.heap.size := e
      omega)
  have HN4' : Hid (A4 = none ∨ A4.map (·.block) ≠ some w.heap.size) := Lib.hid (by
    rcases HO4.out.form with ⟨h1, _⟩ | ⟨g, h1, h2, _⟩
    · exact .inl h1
    · refine .inr ?_
      rw [h1]
      intro e
      injection e with e
      have e : g = w.heap.size := e
      omega)
  clear ho4 hb4 HO2' HK3 HT3 HO3 hn4 hlt1 h13
  simp only
  rw [HR.out]
  have hcut := run_cut_l 38 5 Pl.byteTy A4 54 c4 .i64 48 48 rfl (by omega)
  have hlast : w.heap.size < w4.heap.size := HK4.out.lt
  go_wp2_with
    (refine wpList_copy_bytes rfl (.tmp 43) (.tmp 44) _ rfl _ Pl.byteTy w.heap.size 0 48 48 _ (List.replicate 48 0) rfl HK4.out A4 54 c4 _ rfl HO4.out.bat HO4.out.len 48 (by decide) (by rw [List.length_replicate]; omega) HN4.out ?_
     intro w5 hk5 hg5 hz5
     have HK5 := Lib.hid hk5
     have HG5 := Lib.hid hg5
     have HZ5 := Lib.hid hz5
     clear hk5 hg5 hz5)
  have HB5 := Lib.hid (fit_cell HB4.out HG5.out)
  have HO2' := Lib.hid (HO2.out.kept HG5.out HN2.out)
  have HO4' := Lib.hid (HO4.out.kept HG5.out HN4'.out)
  have HT5 := Lib.hid (HT4.out.below (below_of_row HG5.out (Nat.le_of_lt hlast)) hgc)
  have HK5' : Hid (Blk w5 w.heap.size 72 (cellsOf use)) := Lib.hid (by
    have := HK5.out
    have e : List.take 0 (List.replicate 48 (0 : UInt8)) ++ List.take 48 (b.drop 10) ++ List.drop (0 + 48) (List.replicate 48 0) = use := by
      rw [List.take_zero, List.nil_append, Nat.zero_add, List.drop_replicate, HU.out]
      simp
    rw [e] at this
    exact this)
  have hc4' : c4 - 48 + 48 = c4 := by omega
  have hb6 : BAt w5 (cutA A4 c4 48) (b.drop 58) := by
    have := HO4'.out.bat.cut c4 48 (by rw [HO4'.out.len]; omega)
    rw [List.drop_drop] at this
    exact this
  have htk := take_yes (cutA A4 c4 48) (b.drop 58) 6 (c4 - 48) 4 w5 (by rw [List.length_drop, HBL.out]) (by omega) (by omega) hb6 (by omega) (by omega) (by omega)
  have HTK := Lib.hid htk
  clear HK5 HK4 HB4 HT4 HO2 HO4 HN2 HN4' HN4 hb6 htk HG5 HZ5
  refine HTK.out.mono ?_
  rintro e w6 ⟨A6, N6, c6, rfl, ho6, hb6⟩
  have HB6 := Lib.hid (HB5.out.trans (hb6.mono HB5.out.size))
  have HO6 := Lib.hid (HO2'.out.below hb6)
  have HT6 := Lib.hid (HT5.out.below hb6 (Nat.lt_of_lt_of_le hgc HB5.out.size))
  have HK6 := Lib.hid (HK5'.out.below_ hb6)
  clear ho6 hb6 HTK HB5 HO2' HO4' HT5 HK5'
  simp only
  rw [HS.out]
  have hcut2 := run_cut_h 38 5 Pl.byteTy A2 64 c2 .i64 58 58 rfl (by omega)
  go_wp2_with fail
  have hR1 : IntKind.i64.wrap (R : Int) = (R : Int) := IntWalk.i64_in _ (by omega)
  have hR2 : IntKind.i64.wrap ((R : Int) - 1) = (R : Int) - 1 := IntWalk.i64_in _ (by omega)
  have hS1 : IntKind.u32.wrap (S : Int) = (S : Int) := by rw [IntKind.wrap_u32]; omega
  clear hcut hc4' HS HR HG
  by_cases h0 : 0 < G
  · by_cases h1 : G < 9223372036854775808
    · have HOK : Hid ((decide (0 < G) && decide (G < 9223372036854775808) && ((S : Int) == U (more 0#32 (b.take 58)))) = ((S : Int) == U (more 0#32 (b.take 58)))) := Lib.hid (by simp [h0, h1])
      have hG0 : 0 < G := h0
      have hG1 : (G : Int) < 9223372036854775808 := by omega
      clear h0 h1
      refine Ord.region_ordM [16] [2, 3, 6, 9, 13, 17] [0, 1, 4, 5, 2, 3, 6, 7, 8, 9, 10, 11, 12, 13, 14, 15, 16, 17, 18, 19, 20, 21, 22, 23] (by kernel_rfl) (by kernel_rfl) (by kernel_rfl) (by kernel_rfl) (Ord.ord_run [0, 1, 4, 5] [_, _, _, _] rfl (by kernel_rfl) ?_)
      go_wp2_with
        (refine wpList_load_mid rfl 72 (.tmp 8) rfl w.heap.size 0 rfl (use.map B8) _ (blk_range (cs := use.map B8) (show Blk w6.drew _ _ _ from HK6.out) 0 _ fun j v hv => by rw [Nat.zero_add]; exact hv) Tryd.underlying72 rfl (by rw [bits_size, List.length_map, H48.out]) ?_)
      refine Ord.nx_ord (Ord.ord_pure (.int .i64 (R : Int)) rfl (by kernel_rfl) rfl (fun w' => by first | (go_simp; done) | (go_simp; exact hR1)) ?_)
      simp only [Act.put, List.setIfInBounds_toArray]
      refine Ord.ord_pure (.int .i64 ((R : Int) - 1)) rfl (by kernel_rfl) rfl (fun w' => by first | (go_simp; done) | (go_simp; exact hR2)) ?_
      simp only [Act.put]
      refine Ord.ord_pure (.bool true) rfl (by kernel_rfl) rfl (fun w' => by first | (go_simp; done) | (go_simp; omega)) ?_
      simp only [Act.put]
      refine Ord.ord_run [7, 8] [_, _] rfl (by kernel_rfl) ?_
      go_wp2_with fail
      refine Ord.nx_ord (Ord.ord_pure (.bool true) rfl (by kernel_rfl) (by rfl) (fun w' => by first | (go_simp; done) | (go_simp; omega)) ?_)
      simp only [Act.put]
      refine Ord.ord_run [10, 11, 12] [_, _, _] rfl (by kernel_rfl) ?_
      go_wp2_with fail
      refine Ord.nx_ord (Ord.ord_pure (.int .u32 (S : Int)) rfl (by kernel_rfl) (by rfl) (fun w' => by first | (go_simp; done) | (go_simp; exact hS1)) ?_)
      simp only [Act.put]
      refine Ord.ord_run [14, 15] [_, _] rfl (by kernel_rfl) ?_
      go_wp2_with fail
      refine Ord.nx_ord (Ord.ord_oneM rfl (by kernel_rfl) ?_)
      go_wp2_with fail
      refine (sum_any A2 (b.take 58) 58 c2 w6.drew (by rw [List.length_take, HBL.out]; rfl) (by omega) (show BAt w6.drew A2 (b.take 58) from HO6.out.bat.take 58) (show Tab w6.drew from HT6.out)).mono ?_
      rintro e _ ⟨rfl, rfl⟩
      go_wp2_with fail
      refine Ord.nx_and (Below.refl _ _) ?_
      refine Ord.ord_pure (.bool ((S : Int) == U (more 0#32 (b.take 58)))) rfl (by kernel_rfl) (by rfl) (fun w' => by go_simp) ?_
      simp only [Act.put]
      refine Ord.ord_all [_, _, _, _, _, _] rfl (by kernel_rfl) ?_
      go_wp2_with
        (refine wpList_store_all rfl 72 (.tmp 8) (.tmp 57) rfl w.heap.size 72 _ _ rfl rfl (show Blk w6.drew _ _ (use.map B8).toArray from HK6.out) rfl (by rw [bits_size, List.length_map, H48.out]) (cells_one _) ?_
         intro w7 hk7 hg7 hz7
         have HK7 := Lib.hid hk7
         have HG7 := Lib.hid hg7
         clear hk7 hg7 hz7)
      refine Ord.nx_end ?_
      go_wp2_with fail
      have hld := load_bits (show Blk w7 w.heap.size _ (cellsOf use) from HK7.out) H48.out
      refine bodyPost_ret (v := .tuple #[.int .u64 (G : Int), .int .i64 ((R : Int) - 1), .agg (cellsOf use), .bool ((S : Int) == U (more 0#32 (b.take 58))), .int .i64 0]) ?_ rfl ?_
      · simp [results, Tryd.results33, asAddr, hld]
      · exact ⟨by rw [HOK.out], fit_cell (below_drewN HB6.out 1) HG7.out⟩
    · have HOK : Hid ((decide (0 < G) && decide (G < 9223372036854775808) && ((S : Int) == U (more 0#32 (b.take 58)))) = false) := Lib.hid (by simp [h1])
      have hG0 : 0 < G := h0
      have hG1 : ¬ (G : Int) < 9223372036854775808 := by omega
      clear h0 h1
      refine Ord.region_ordM [] [2, 3, 6, 9, 13, 16, 17] [0, 1, 4, 5, 2, 3, 6, 7, 8, 9, 10, 11, 12, 13, 14, 15, 16, 17, 18, 19, 20, 21, 22, 23] (by kernel_rfl) (by kernel_rfl) (by kernel_rfl) (by kernel_rfl) (Ord.ord_run [0, 1, 4, 5] [_, _, _, _] rfl (by kernel_rfl) ?_)
      go_wp2_with
        (refine wpList_load_mid rfl 72 (.tmp 8) rfl w.heap.size 0 rfl (use.map B8) _ (blk_range (cs := use.map B8) (show Blk w6.drew _ _ _ from HK6.out) 0 _ fun j v hv => by rw [Nat.zero_add]; exact hv) Tryd.underlying72 rfl (by rw [bits_size, List.length_map, H48.out]) ?_)
      refine Ord.nx_ord (Ord.ord_pure (.int .i64 (R : Int)) rfl (by kernel_rfl) rfl (fun w' => by first | (go_simp; done) | (go_simp; exact hR1)) ?_)
      simp only [Act.put, List.setIfInBounds_toArray]
      refine Ord.ord_pure (.int .i64 ((R : Int) - 1)) rfl (by kernel_rfl) rfl (fun w' => by first | (go_simp; done) | (go_simp; exact hR2)) ?_
      simp only [Act.put]
      refine Ord.ord_pure (.bool true) rfl (by kernel_rfl) rfl (fun w' => by first | (go_simp; done) | (go_simp; omega)) ?_
      simp only [Act.put]
      refine Ord.ord_run [7, 8] [_, _] rfl (by kernel_rfl) ?_
      go_wp2_with fail
      refine Ord.nx_ord (Ord.ord_pure (.bool false) rfl (by kernel_rfl) (by rfl) (fun w' => by first | (go_simp; done) | (go_simp; omega)) ?_)
      simp only [Act.put]
      refine Ord.ord_run [10, 11, 12] [_, _, _] rfl (by kernel_rfl) ?_
      go_wp2_with fail
      refine Ord.nx_ord (ord_skip rfl (by kernel_rfl) (by rfl) ?_)
      simp only [Act.put]
      refine Ord.ord_run [14, 15] [_, _] rfl (by kernel_rfl) ?_
      go_wp2_with fail
      refine Ord.nx_ord (ord_skip rfl (by kernel_rfl) (by rfl) ?_)
      simp only [Act.put]
      refine ord_skip rfl (by kernel_rfl) (by rfl) ?_
      simp only [Act.put]
      refine Ord.ord_all [_, _, _, _, _, _] rfl (by kernel_rfl) ?_
      go_wp2_with
        (refine wpList_store_all rfl 72 (.tmp 8) (.tmp 57) rfl w.heap.size 72 _ _ rfl rfl (show Blk w6.drew _ _ (use.map B8).toArray from HK6.out) rfl (by rw [bits_size, List.length_map, H48.out]) (cells_one _) ?_
         intro w7 hk7 hg7 hz7
         have HK7 := Lib.hid hk7
         have HG7 := Lib.hid hg7
         clear hk7 hg7 hz7)
      refine Ord.nx_end ?_
      go_wp2_with fail
      have hld := load_bits (show Blk w7 w.heap.size _ (cellsOf use) from HK7.out) H48.out
      refine bodyPost_ret (v := .tuple #[.int .u64 (G : Int), .int .i64 ((R : Int) - 1), .agg (cellsOf use), .bool false, .int .i64 0]) ?_ rfl ?_
      · simp [results, Tryd.results33, asAddr, hld]
      · exact ⟨by rw [HOK.out], fit_cell (below_drewN HB6.out 1) HG7.out⟩
  · have HOK : Hid ((decide (0 < G) && decide (G < 9223372036854775808) && ((S : Int) == U (more 0#32 (b.take 58)))) = false) := Lib.hid (by simp [h0])
    have hG0 : G = 0 := by omega
    clear h0
    refine Ord.region_ordM [] [2, 3, 6, 9, 13, 16, 17] [0, 1, 4, 5, 2, 3, 6, 7, 8, 9, 10, 11, 12, 13, 14, 15, 16, 17, 18, 19, 20, 21, 22, 23] (by kernel_rfl) (by kernel_rfl) (by kernel_rfl) (by kernel_rfl) (Ord.ord_run [0, 1, 4, 5] [_, _, _, _] rfl (by kernel_rfl) ?_)
    go_wp2_with
      (refine wpList_load_mid rfl 72 (.tmp 8) rfl w.heap.size 0 rfl (use.map B8) _ (blk_range (cs := use.map B8) (show Blk w6.drew _ _ _ from HK6.out) 0 _ fun j v hv => by rw [Nat.zero_add]; exact hv) Tryd.underlying72 rfl (by rw [bits_size, List.length_map, H48.out]) ?_)
    refine Ord.nx_ord (Ord.ord_pure (.int .i64 (R : Int)) rfl (by kernel_rfl) rfl (fun w' => by first | (go_simp; done) | (go_simp; exact hR1)) ?_)
    simp only [Act.put, List.setIfInBounds_toArray]
    refine Ord.ord_pure (.int .i64 ((R : Int) - 1)) rfl (by kernel_rfl) rfl (fun w' => by first | (go_simp; done) | (go_simp; exact hR2)) ?_
    simp only [Act.put]
    refine Ord.ord_pure (.bool false) rfl (by kernel_rfl) rfl (fun w' => by first | (go_simp; done) | (go_simp; omega)) ?_
    simp only [Act.put]
    refine Ord.ord_run [7, 8] [_, _] rfl (by kernel_rfl) ?_
    go_wp2_with fail
    refine Ord.nx_ord (ord_skip rfl (by kernel_rfl) (by rfl) ?_)
    simp only [Act.put]
    refine Ord.ord_run [10, 11, 12] [_, _, _] rfl (by kernel_rfl) ?_
    go_wp2_with fail
    refine Ord.nx_ord (ord_skip rfl (by kernel_rfl) (by rfl) ?_)
    simp only [Act.put]
    refine Ord.ord_run [14, 15] [_, _] rfl (by kernel_rfl) ?_
    go_wp2_with fail
    refine Ord.nx_ord (ord_skip rfl (by kernel_rfl) (by rfl) ?_)
    simp only [Act.put]
    refine ord_skip rfl (by kernel_rfl) (by rfl) ?_
    simp only [Act.put]
    refine Ord.ord_all [_, _, _, _, _, _] rfl (by kernel_rfl) ?_
    go_wp2_with
      (refine wpList_store_all rfl 72 (.tmp 8) (.tmp 57) rfl w.heap.size 72 _ _ rfl rfl (show Blk w6.drew _ _ (use.map B8).toArray from HK6.out) rfl (by rw [bits_size, List.length_map, H48.out]) (cells_one _) ?_
       intro w7 hk7 hg7 hz7
       have HK7 := Lib.hid hk7
       have HG7 := Lib.hid hg7
       clear hk7 hg7 hz7)
    refine Ord.nx_end ?_
    go_wp2_with fail
    have hld := load_bits (show Blk w7 w.heap.size _ (cellsOf use) from HK7.out) H48.out
    refine bodyPost_ret (v := .tuple #[.int .u64 (G : Int), .int .i64 ((R : Int) - 1), .agg (cellsOf use), .bool false, .int .i64 0]) ?_ rfl ?_
    · simp [results, Tryd.results33, asAddr, hld]; omega
    · exact ⟨by rw [HOK.out], fit_cell (below_drewN HB6.out 1) HG7.out⟩
end Go.Proofs.YtookhagpgkefpaaDoor.Pag
