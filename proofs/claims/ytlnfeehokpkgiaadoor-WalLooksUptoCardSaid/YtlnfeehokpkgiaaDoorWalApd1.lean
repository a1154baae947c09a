/- The literal within the journal's 'Append': one part's sector. -/
import Derived.Test.YtlnfeehokpkgiaaDoorWalFits
import Derived.Deep.CutRange
namespace Go.Proofs.YtlnfeehokpkgiaaDoor.Ord
open Go.RowKit Mem
/-- An operation that yields the same in every world is walked ahead. -/
theorem tb_pure {P : Program} {ops : Array Oper} {Q : Exit → Act → World → Prop} {md : Region.Mode} {L : List Nat} {i k : Nat} {o : Oper} {listed : Array Bool} {a : Act} {w : World} (v : Value) (hsel : Region.noSelect ops = true) (hi : ops[i]? = some o)
    (hok : ((Region.ready md ops listed).contains i && Region.free md ops listed i) = true) (hw : Region.wanted o (yielded ops a.tmps) = true) (hv : ∀ w', (execOp a.eval o).run P w' = .ok (.value v) w')
    (h : TB P md ops Q L k (listed.setIfInBounds i true) (a.put o.dst v) w) : TB P md ops Q L (k + 1) listed a w := fun hcl => by
  rw [Bool.and_eq_true] at hok
  have hr : i ∈ Region.ready md ops listed := by simpa using hok.1
  exact wpB_first (fun _ => True) (fun _ _ _ _ => trivial) hi (Region.noSelect_spec hsel) (fun _ _ _ x => x) k listed a w hcl (Region.free_spec hi hok.2) (.inl fun _ => trivial) hr (.inl ⟨hw, fun w' _ => hv w'⟩) trivial (h (hcl.set hr))
end Go.Proofs.YtlnfeehokpkgiaaDoor.Ord
namespace Go.Proofs.YtlnfeehokpkgiaaDoor.Wal
open Go Go.RowKit Mem Pl Disk Crc _root_.Go.Proofs.YtlnfeehokpkgiaaDoor.Frame
def row64 : Array Value := cellsOf (List.replicate 64 0)
theorem run_make1664 (W : World) : (Instr.makeSlice 32 (.int .i64 16) (.int .i64 64)).run Tryd.prog W = .ok (.slice (some ⟨W.heap.size, 0, none⟩) 16 64) (W.alloc (.cells row64 5)) :=
  run_makeCap Pl.byteTy 16 64 16 64 rfl rfl (by omega) (by omega) W
theorem own_make1664 (W : World) (base : Nat) (hb : base ≤ W.heap.size) : Own (W.alloc (.cells row64 5)) base 5 (some ⟨W.heap.size, 0, none⟩) 16 64 (List.replicate 16 0) :=
  ⟨by simp, .inr ⟨_, 64, _, rfl, hb, heap_alloc_new W _, by omega, by decide, by unfold row64; simp [cellsOf], by unfold row64; simp [cellsOf]⟩⟩
theorem chunk_len' {b : List UInt8} {i n : Nat} (hn : b.length = n) : (chunk b i).length = min 45 (n - 45 * i) := by
  unfold chunk
  rw [List.length_take, List.length_drop, hn]
theorem drop16 {i many : Nat} {t : List UInt8} (ht : t.length ≤ 45) : (List.replicate 16 (0 : UInt8) ++ [UInt8.ofNat i, UInt8.ofNat many, UInt8.ofNat t.length] ++ t ++ List.replicate (64 - (19 + t.length)) 0).drop 16 = partT i many t := by
  unfold partT
  rw [show 64 - (19 + t.length) = 45 - t.length by omega]
  rfl
/-- What the cut leaves. -/
def TailP (w : World) (i many : Nat) (t : List UInt8) (v : Value) (wc : World) : Prop := ∃ A c, v = .slice A 48 c ∧ BAt wc A (partT i many t) ∧ Below w.heap.size w wc
set_option maxRecDepth 100000 in
set_option maxHeartbeats 8000000 in
theorem part_make {w : World} {g a dev N : Nat} {m : WM} {bb wb mb i many : Nat} {A : Option Addr} {n cap : Nat} {bs : List UInt8} (hw : WalB w g a dev N m) (hb : w.cell? ⟨bb, 0, none⟩ = some (.slice A n cap)) (hwb : w.cell? ⟨wb, 0, none⟩ = some (.pointer (some ⟨g, 0, none⟩)))
    (hmb : w.cell? ⟨mb, 0, none⟩ = some (.int .i64 (many : Int))) (hA : BAt w A bs) (hn : bs.length = n) (hcap : n ≤ cap) (hi : 45 * i ≤ n) (hm24 : many ≤ 24) (him : i < many) (hn2 : n ≤ 2000) (he : m.ep < 18446744073709551616) (hg : m.gen < 18446744073709551616) (hnum : m.num < 18446744073709551616)
    (ht : Tab w) (hgc : 0 < w.heap.size) :
    Calls Tryd.prog 42 #[.int .i64 (i : Int), .pointer (some ⟨bb, 0, none⟩), .pointer (some ⟨wb, 0, none⟩), .pointer (some ⟨mb, 0, none⟩)] w fun e w' => ∃ A' c', e = .returned (.slice A' 64 c') ∧ BAt w' A' (partB m.ep m.gen m.num i many (chunk bs i)) ∧ Below w.heap.size w w' := by
  obtain ⟨c0, c1, c2, c3, c4, c5, c6⟩ := hw.cells
  have HT := Lib.hid ht
  have HW := Lib.hid hw
  obtain ⟨lo, hlo⟩ : ∃ lo, 45 * i = lo := ⟨_, rfl⟩
  obtain ⟨hi2, hhi⟩ : ∃ h, min n (45 * (i + 1)) = h := ⟨_, rfl⟩
  obtain ⟨q, hq⟩ : ∃ q, hi2 - lo = q := ⟨_, rfl⟩
  have hql : (chunk bs i).length = q := by rw [chunk_len' hn]; omega
  have hq45 : q ≤ 45 := by omega
  have hwlo : IntKind.i64.wrap ((i : Int) * 45) = (lo : Int) := by rw [show (i : Int) * 45 = (lo : Int) by omega]; exact IntWalk.i64_in _ (by omega)
  have hwi : IntKind.i64.wrap ((i : Int) + 1) = (i : Int) + 1 := IntWalk.i64_in _ (by omega)
  obtain ⟨E, hE⟩ : ∃ E, 45 * (i + 1) = E := ⟨_, rfl⟩
  have hwE : IntKind.i64.wrap (((i : Int) + 1) * 45) = (E : Int) := by rw [show ((i : Int) + 1) * 45 = (E : Int) by omega]; exact IntWalk.i64_in _ (by omega)
  have HCA : Hid (BAt w (cutA A hi2 lo) (chunk bs i)) := Lib.hid (by
    have h1 : BAt w A (bs.take hi2) := hA.take hi2
    have h2 := h1.cut hi2 lo (by rw [List.length_take]; omega)
    have e : (bs.take hi2).drop lo = chunk bs i := by
      unfold chunk
      rw [List.drop_take, hlo, hq]
      rcases Nat.lt_or_ge n (45 * (i + 1)) with h | h
      · rw [List.take_of_length_le (by rw [List.length_drop]; omega), List.take_of_length_le (by rw [List.length_drop]; omega)]
      · rw [show q = 45 by omega]
    rw [e] at h2
    exact h2)
  have HN1 := Lib.hid (number_yes none [] 0 0 m.ep 4 w rfl (by omega) (BAt.nil_ _ _) (by omega) (by omega) he)
  have hcut := fun W => run_cut_lhm 32 5 Pl.byteTy A n cap .i64 .i64 .i64 (lo : Int) (hi2 : Int) (hi2 : Int) lo hi2 hi2 rfl rfl rfl (by omega) (Nat.le_refl _) (by omega) W
  rw [hq] at hcut
  have hw8i : IntKind.u8.wrap (i : Int) = (i : Int) := by rw [IntKind.wrap_u8]; omega
  have hw8m : IntKind.u8.wrap (many : Int) = (many : Int) := by rw [IntKind.wrap_u8]; omega
  have hw8q : IntKind.u8.wrap (q : Int) = (q : Int) := by rw [IntKind.wrap_u8]; omega
  have hmin : (if (E : Int) < (n : Int) then (E : Int) else (n : Int)) = (hi2 : Int) := by split <;> omega
  have hvi : V8 (UInt8.ofNat i) = (i : Int) := by rw [V8_ofNat]; omega
  have hvm : V8 (UInt8.ofNat many) = (many : Int) := by rw [V8_ofNat]; omega
  have hvq : V8 (UInt8.ofNat q) = (q : Int) := by rw [V8_ofNat]; omega
  have HQ : Hid ((chunk bs i).length = q ∧ q ≤ 45) := Lib.hid ⟨hql, hq45⟩
  have HEG : Hid (m.gen < 18446744073709551616 ∧ m.num < 18446744073709551616 ∧ i < many ∧ many ≤ 24) := Lib.hid ⟨hg, hnum, him, hm24⟩
  clear hw hA hn hlo hhi hq hql ht hE hg hnum he
  go_enter Tryd.func42, Tryd.ntmps42
  go_upto_region 1 with fail
  go_cut [6] from 9 to 24 (fun cv wc => cv = .slice (cutA A hi2 lo) q q ∧ wc = w)
  case first =>
    by_cases hlt : E < n
    · have hltI : (E : Int) < (n : Int) := by omega
      obtain rfl : hi2 = E := by omega
      go_wp2_with fail
      go_meet
      exact ⟨rfl, rfl⟩
    · have hltI : ¬ (E : Int) < (n : Int) := by omega
      obtain rfl : hi2 = n := by omega
      go_wp2_with fail
      go_meet
      exact ⟨rfl, rfl⟩
  case rest =>
    obtain ⟨rfl, hwc⟩ := hcut
    obtain rfl : w = wc := hwc.symm
    have HWB0 := Lib.hid hwb
    have HMB0 := Lib.hid hmb
    go_wp2_with fail
    refine HN1.out.mono ?_
    rintro e w1 ⟨A1, N1, k1, rfl, ho1, hb1⟩
    obtain rfl : N1 = 4 := by have := ho1.len; simpa [beB_length] using this.symm
    have HB1 := Lib.hid hb1
    have HN2 := Lib.hid (number_yes A1 _ 4 k1 m.gen 4 w1.drew ho1.len (by omega) (ho1.below (below_drewN (Below.refl w1.heap.size _) 1)).bat (by omega) (by omega) HEG.out.1)
    have a0 : w1.cell? ⟨wb, 0, none⟩ = some (.pointer (some ⟨g, 0, none⟩)) := (hb1.cell (cell_lt hwb)).trans hwb
    obtain ⟨d0, d1, d2, d3, d4, d5, d6⟩ := (HW.out.below hb1).cells
    clear ho1 hb1 HN1 c0 c1 c2 c3 c4 c5 c6 d0 d1 d2 d4 d5 hb hwb hmb
    go_wp2_with fail
    refine Ord.region_ordM [5] [] [0, 1, 2, 3, 4, 6, 7, 8, 9, 5, 10, 11] (by kernel_rfl) (by kernel_rfl) (by kernel_rfl) (by kernel_rfl) (Ord.ord_run [0, 1, 2, 3, 4, 6, 7, 8, 9] [_, _, _, _, _, _, _, _, _] rfl (by kernel_rfl) ?_)
    go_wp2_with fail
    refine Ord.nx_ord (Ord.ord_oneM rfl (by kernel_rfl) ?_)
    go_wp2_with fail
    refine HN2.out.mono ?_
    rintro e w2 ⟨A2, N2, k2, rfl, ho2, hb2⟩
    obtain rfl : N2 = 8 := by have := ho2.len; simpa [beB_length] using this.symm
    have HB2 : Hid (Below w1.heap.size w1 w2) := Lib.hid ((below_drewN (Below.refl w1.heap.size w1) 1).trans hb2)
    have HB2D := Lib.hid hb2
    have HN3 := Lib.hid (number_yes A2 _ 8 k2 m.num 4 w2 ho2.len (by omega) ho2.bat (by omega) (by omega) HEG.out.2.1)
    clear ho2 hb2 HN2
    go_wp2_with fail
    refine Ord.nx_and HB2D.out (Ord.ord_all [_, _] rfl (by kernel_rfl) ?_)
    go_wp2_with fail
    refine HN3.out.mono ?_
    rintro e w3 ⟨A3, N3, k3, rfl, ho3, hb3⟩
    obtain rfl : N3 = 12 := by have := ho3.len; simpa [beB_length] using this.symm
    have ho3' : Own w3 w2.heap.size 5 A3 12 k3 (partH m.ep m.gen m.num) := ho3
    have HO3 := Lib.hid ho3'
    have hb13 := HB1.out.trans ((HB2.out.trans (hb3.mono HB2.out.size)).mono HB1.out.size)
    have HB3 := Lib.hid hb13
    have kmb : w3.cell? ⟨mb, 0, none⟩ = some (.int .i64 (many : Int)) := (hb13.cell (cell_lt HMB0.out)).trans HMB0.out
    have HC3 := Lib.hid (HCA.out.below hb13)
    clear ho3 ho3' hb3 hb13 HN3 a0 d3 d6
    go_wp2_with fail
    refine Ord.nx_end ?_
    go_upto_region 4 with fail
    go_cut [8] from 41 to 54 (fun tv wc => TailP w3 i many (chunk bs i) tv wc)
    case first =>
      have hmk := run_make1664
      refine Ord.tb_start [2, 4, 7] (by kernel_rfl) (Ord.tb_pre [1, 3, 5, 6, 10] [_, _, _, _, _] (k := 10) (by kernel_rfl) rfl rfl (by kernel_rfl) ?_)
      go_wp2_with fail
      refine Ord.nx_tb (Ord.tb_pure (i := 2) (k := 9) (.int .u8 (i : Int)) (by kernel_rfl) rfl (by kernel_rfl) (by rfl) (fun w' => by first | (go_simp; done) | (go_simp; exact hw8i)) ?_)
      simp only [Act.put, List.setIfInBounds_toArray]
      refine Ord.tb_pure (i := 4) (k := 8) (.int .u8 (many : Int)) (by kernel_rfl) rfl (by kernel_rfl) (by rfl) (fun w' => by first | (go_simp; done) | (go_simp; exact hw8m)) ?_
      simp only [Act.put]
      refine Ord.tb_pure (i := 7) (k := 7) (.int .u8 (q : Int)) (by kernel_rfl) rfl (by kernel_rfl) (by rfl) (fun w' => by first | (go_simp; done) | (go_simp; exact hw8q)) ?_
      simp only [Act.put]
      refine (Ord.tb_fork (i := 0) (j := 8) (k := 6) (by kernel_rfl) rfl rfl ?_ ?_)
      · go_wp2_with fail
        have b1d : Below w3.drew.heap.size w3.drew (w3.alloc (.cells row64 5)).drew := below_al' (w := w3.drew) _
        have b1 : Below w3.heap.size w3 (w3.alloc (.cells row64 5)).drew := (below_al' (w := w3) _).drew
        have o1 : Own (w3.alloc (.cells row64 5)).drew w3.heap.size 5 (some ⟨w3.heap.size, 0, none⟩) 16 64 (List.replicate 16 0) := (own_make1664 w3 w3.heap.size (Nat.le_refl _)).below (below_drewN (Below.refl _ _) 1)
        have s1 : w3.heap.size < (w3.alloc (.cells row64 5)).drew.heap.size := by simp
        generalize (w3.alloc (.cells row64 5)).drew = W1 at *
        refine Ord.nx_tb2 b1d (Ord.tb_ords [8, 9, 11, 12, 13, 14] (by kernel_rfl) rfl (by kernel_rfl) (Ord.ord_run [8] [_] rfl (by kernel_rfl) ?_))
        go_wp2_with fail
        have b2 := below_al' (w := W1) (.cells #[.int .u8 (i : Int), .int .u8 (many : Int), .int .u8 (q : Int)] 5)
        have o3 := (Own.new W1 (e := 5) (base := W1.heap.size) (bs := [UInt8.ofNat i, UInt8.ofNat many, UInt8.ofNat q]) (n := 3) W1.heap.size #[.int .u8 (i : Int), .int .u8 (many : Int), .int .u8 (q : Int)] rfl (Nat.le_refl _) (by simp [B8, hvi, hvm, hvq]) rfl (by decide)).bat
        have O1 := Lib.hid (o1.below b2)
        have B3 := Lib.hid o3
        have BW := Lib.hid (b1.trans (b2.mono (Nat.le_of_lt s1)))
        generalize W1.alloc (.cells #[.int .u8 (i : Int), .int .u8 (many : Int), .int .u8 (q : Int)] 5) = W2 at *
        generalize W1.heap.size = g3 at *
        clear b1d b1 o1 s1 b2 o3
        refine Ord.nx_ord (Ord.ord_run [9] [_] rfl (by kernel_rfl) ?_)
        go_wp2_with
          (refine wpList_append_bytes rfl (.tmp 41) (.tmp 49) _ rfl w3.heap.size _ Pl.byteTy (some ⟨w3.heap.size, 0, none⟩) 16 64 _ rfl O1.out (some ⟨g3, 0, none⟩) 3 3 _ rfl B3.out rfl 19 rfl (by omega) BW.out.size ?_
           intro A4 c4 w4 ho4 hg4 hb4 hA4
           have HO4 := Lib.hid ho4
           have HB4 := Lib.hid (BW.out.trans hb4)
           clear ho4 hg4 hb4 hA4)
        refine Ord.nx_ord (Ord.ord_run [11] [_] rfl (by kernel_rfl) ?_)
        go_wp2_with
          (refine wpList_append_bytes rfl (.tmp 50) (.tmp 51) _ rfl w3.heap.size _ Pl.byteTy A4 19 c4 _ rfl HO4.out (cutA A hi2 lo) q q (chunk bs i) rfl (HC3.out.below HB4.out) HQ.out.1 (19 + q) rfl (by omega) HB4.out.size ?_
           intro A5 c5 w5 ho5 hg5 hb5 hA5
           have HO5 := Lib.hid ho5
           have HB5 := Lib.hid (HB4.out.trans hb5)
           clear ho5 hg5 hb5 hA5)
        have HFL := Lib.hid (fill_any w5 w3.heap.size A5 (19 + q) c5 _ HO5.out HB5.out.size (by omega))
        refine Ord.nx_ord (Ord.ord_all [_, _, _] rfl (by kernel_rfl) ?_)
        go_wp2_with fail
        refine HFL.out.mono ?_
        rintro e w6 ⟨A6, c6, rfl, ho6, hb6⟩
        have HO6 := Lib.hid ho6
        have HB6 := Lib.hid (HB5.out.trans hb6)
        have hct := fun W => run_cut_l 32 5 Pl.byteTy A6 64 c6 .i64 16 16 rfl (by omega) W
        clear ho6 hb6 HFL
        go_wp2_with fail
        refine Ord.nx_end ?_
        go_wp2_with fail
        go_meet
        refine ⟨_, _, rfl, ?_, HB6.out⟩
        have h1 := HO6.out.bat.cut c6 16 (by rw [HO6.out.len]; exact HO6.out.cap_le.1)
        rw [← HQ.out.1, drop16 (by rw [HQ.out.1]; exact HQ.out.2)] at h1
        exact h1
      · go_wp2_with fail
        have b1d : Below w3.drew.heap.size w3.drew (w3.alloc (.cells #[.int .u8 (i : Int), .int .u8 (many : Int), .int .u8 (q : Int)] 5)).drew := below_al' (w := w3.drew) _
        have b1 : Below w3.heap.size w3 (w3.alloc (.cells #[.int .u8 (i : Int), .int .u8 (many : Int), .int .u8 (q : Int)] 5)).drew := (below_al' (w := w3) _).drew
        have o3 : BAt (w3.alloc (.cells #[.int .u8 (i : Int), .int .u8 (many : Int), .int .u8 (q : Int)] 5)).drew (some ⟨w3.heap.size, 0, none⟩) [UInt8.ofNat i, UInt8.ofNat many, UInt8.ofNat q] := ((Own.new w3 (e := 5) (base := w3.heap.size) (bs := [UInt8.ofNat i, UInt8.ofNat many, UInt8.ofNat q]) (n := 3) w3.heap.size #[.int .u8 (i : Int), .int .u8 (many : Int), .int .u8 (q : Int)] rfl (Nat.le_refl _) (by simp [B8, hvi, hvm, hvq]) rfl (by decide)).below (below_drewN (Below.refl _ _) 1)).bat
        have s1 : w3.heap.size ≤ (w3.alloc (.cells #[.int .u8 (i : Int), .int .u8 (many : Int), .int .u8 (q : Int)] 5)).drew.heap.size := by simp
        generalize (w3.alloc (.cells #[.int .u8 (i : Int), .int .u8 (many : Int), .int .u8 (q : Int)] 5)).drew = W1 at *
        refine Ord.nx_tb2 b1d (Ord.tb_ords [0, 9, 11, 12, 13, 14] (by kernel_rfl) rfl (by kernel_rfl) (Ord.ord_run [0] [_] rfl (by kernel_rfl) ?_))
        go_wp2_with fail
        have b2 := below_al' (w := W1) (.cells row64 5)
        have O1 := Lib.hid (own_make1664 W1 w3.heap.size s1)
        have B3 := Lib.hid (o3.below b2)
        have BW := Lib.hid (b1.trans (b2.mono s1))
        generalize W1.alloc (.cells row64 5) = W2 at *
        generalize W1.heap.size = g3 at *
        clear b1d b1 s1 b2 o3
        refine Ord.nx_ord (Ord.ord_run [9] [_] rfl (by kernel_rfl) ?_)
        go_wp2_with
          (refine wpList_append_bytes rfl (.tmp 41) (.tmp 49) _ rfl w3.heap.size _ Pl.byteTy (some ⟨g3, 0, none⟩) 16 64 _ rfl O1.out (some ⟨w3.heap.size, 0, none⟩) 3 3 _ rfl B3.out rfl 19 rfl (by omega) BW.out.size ?_
           intro A4 c4 w4 ho4 hg4 hb4 hA4
           have HO4 := Lib.hid ho4
           have HB4 := Lib.hid (BW.out.trans hb4)
           clear ho4 hg4 hb4 hA4)
        refine Ord.nx_ord (Ord.ord_run [11] [_] rfl (by kernel_rfl) ?_)
        go_wp2_with
          (refine wpList_append_bytes rfl (.tmp 50) (.tmp 51) _ rfl w3.heap.size _ Pl.byteTy A4 19 c4 _ rfl HO4.out (cutA A hi2 lo) q q (chunk bs i) rfl (HC3.out.below HB4.out) HQ.out.1 (19 + q) rfl (by omega) HB4.out.size ?_
           intro A5 c5 w5 ho5 hg5 hb5 hA5
           have HO5 := Lib.hid ho5
           have HB5 := Lib.hid (HB4.out.trans hb5)
           clear ho5 hg5 hb5 hA5)
        have HFL := Lib.hid (fill_any w5 w3.heap.size A5 (19 + q) c5 _ HO5.out HB5.out.size (by omega))
        refine Ord.nx_ord (Ord.ord_all [_, _, _] rfl (by kernel_rfl) ?_)
        go_wp2_with fail
        refine HFL.out.mono ?_
        rintro e w6 ⟨A6, c6, rfl, ho6, hb6⟩
        have HO6 := Lib.hid ho6
        have HB6 := Lib.hid (HB5.out.trans hb6)
        have hct := fun W => run_cut_l 32 5 Pl.byteTy A6 64 c6 .i64 16 16 rfl (by omega) W
        clear ho6 hb6 HFL
        go_wp2_with fail
        refine Ord.nx_end ?_
        go_wp2_with fail
        go_meet
        refine ⟨_, _, rfl, ?_, HB6.out⟩
        have h1 := HO6.out.bat.cut c6 16 (by rw [HO6.out.len]; exact HO6.out.cap_le.1)
        rw [← HQ.out.1, drop16 (by rw [HQ.out.1]; exact HQ.out.2)] at h1
        exact h1
    case rest =>
      obtain ⟨A4, k4, rfl, hbt4, hb4⟩ := hcut
      have HB4 := Lib.hid hb4
      have HB5 := Lib.hid (HB3.out.trans (hb4.mono HB3.out.size))
      have HT4 := Lib.hid hbt4
      have HO4 := Lib.hid (HO3.out.below hb4)
      have HSM := Lib.hid (sum_any A3 (partH m.ep m.gen m.num) 12 k3 wc (partH_len _ _ _) (by omega) (HO3.out.below hb4).bat (HT.out.below HB5.out hgc))
      have HMR := Lib.hid (more_any (more 0#32 (partH m.ep m.gen m.num)) A4 (partT i many (chunk bs i)) 48 k4 wc (partT_len i many (chunk_len _ _)) (by omega) hbt4 (HT.out.below HB5.out hgc))
      clear hb4 hbt4 kmb
      go_wp2_with fail
      refine HSM.out.mono ?_
      rintro e _ ⟨rfl, rfl⟩
      go_wp2_with fail
      refine HMR.out.mono ?_
      rintro e _ ⟨rfl, rfl⟩
      obtain ⟨x, hx⟩ : ∃ x, more (more 0#32 (partH m.ep m.gen m.num)) (partT i many (chunk bs i)) = x := ⟨_, rfl⟩
      have hS1 : U (more (more 0#32 (partH m.ep m.gen m.num)) (partT i many (chunk bs i))) = ((x.toNat : Nat) : Int) := by rw [hx]; rfl
      have hSl := x.isLt
      rw [hS1]
      have HX := Lib.hid hx
      obtain ⟨S, hS⟩ : ∃ S, x.toNat = S := ⟨_, rfl⟩
      rw [hS] at hSl ⊢
      have HS := Lib.hid hS
      have hw3 : IntKind.u64.wrap (S : Int) = (S : Int) := by rw [IntKind.wrap_u64]; omega
      have HN4 := Lib.hid (number_yes A3 (partH m.ep m.gen m.num) 12 k3 S 4 wc (partH_len _ _ _) (by omega) HO4.out.bat (by omega) (by omega) (by omega))
      clear hS1 hS hx HSM HMR
      go_wp2_with fail
      refine HN4.out.mono ?_
      rintro e w7 ⟨A7, N7, k7, rfl, ho7, hb7⟩
      obtain rfl : N7 = 16 := by have := ho7.len; simpa [beB_length, partH_len] using this.symm
      have HB7 := Lib.hid (HB5.out.trans (hb7.mono HB5.out.size))
      have HS7 : Hid (wc.heap.size ≤ w7.heap.size) := Lib.hid hb7.size
      have HT7 := Lib.hid (HT4.out.below hb7)
      have HO7 := Lib.hid ho7
      clear ho7 hb7 HN4
      go_wp2_with
        (at_builtin
         refine wpList_append_bytes rfl (.tmp 61) (.tmp 62) _ rfl wc.heap.size _ Pl.byteTy A7 16 k7 _ rfl HO7.out A4 48 k4 (partT i many (chunk bs i)) rfl HT7.out (partT_len i many (chunk_len _ _)) 64 rfl (by omega) HS7.out ?_
         intro A8 k8 w8 ho8 hg8 hb8 hA8
         have HO8 := Lib.hid ho8
         have HB8 := Lib.hid (HB7.out.trans (hb8.mono HB5.out.size))
         clear ho8 hg8 hb8 hA8)
      go_ret
      refine ⟨A8, k8, rfl, ?_, HB8.out⟩
      have h1 := HO8.out.bat
      unfold partB
      rw [HX.out, HS.out]
      exact h1
end Go.Proofs.YtlnfeehokpkgiaaDoor.Wal
