/- The desk's 'do'. -/
import Derived.Test.YtlnfeehokpkgiaaDoorWalForm
namespace Go.Proofs.YtlnfeehokpkgiaaDoor.Wal
open Go Go.RowKit Mem Pl Disk Crc _root_.Go.Proofs.YtlnfeehokpkgiaaDoor.Frame
/-- A row of one row. -/
theorem may_one {B : Nat} {w : World} {F K : Nat → Prop} {txs : List Tx} {v : Value} (hB : B ≤ w.heap.size) (hF : ∀ k, F k → k < w.heap.size) (hK : ∀ k, K k → k < w.heap.size) (h : TxsAt w (Calm B F K) txs v) :
    MayAt (w.alloc (.cells #[v] 38)) (Calm B F K) [txs] (.slice (some ⟨w.heap.size, 0, none⟩) 1 1) :=
  MayAt.new w (mays := [txs]) (J := Calm B F K) [v] rfl (by simp) (fun k t hk => by
    rcases k with _ | k
    · simp at hk
      subst hk
      exact ⟨_, rfl, h⟩
    · simp at hk) ⟨hB, fun h => by have := hF _ h; omega, fun h => by have := hK _ h; omega⟩
theorem Dsk.dsk0 {B : Nat} {w : World} {F K : Nat → Prop} {a : Nat} {pm : PM} {n dev N d g : Nat} {v : Value} {txs : List Tx} {cost dims : Nat} {H : List (List UInt8)} {G E nx : Nat} (x : Dsk B w F K a pm n dev N d g v txs cost dims H G E nx) : Dsk0 B w F K a pm n dev N d txs dims H G E G nx :=
  ⟨x.st, x.disk, x.on, x.jr, ⟨_, _, _, x.desk⟩, x.dK, x.dF, x.dB⟩
set_option maxRecDepth 100000 in
set_option maxHeartbeats 16000000 in
theorem do_any {B : Nat} {w : World} {F K : Nat → Prop} {a : Nat} {pm : PM} {n dev N d g : Nat} {v : Value} {txs : List Tx} {dims : Nat} {H : List (List UInt8)} {G E nx : Nat} (x : Dsk B w F K a pm n dev N d g v txs (sumM txs) dims H G E nx) (hB : B ≤ w.heap.size) (hn : n ≤ 510000000) (hG : G + 6 < 4000000000) (hdm : dims ≤ 800000000000)
    (hKO : KOk B w F K) (o : OpW) (hki : inI o.kind) (hNi : inI o.N) (hrow : ∀ w', Mods w.heap.size (fun k => F k ∨ K k) w w' → RowsAt w' o.TA o.tx) (htl : o.tx.length = o.tn) (htm : o.tn ≤ 1000000000) (htot : totM o.tx ≤ 100000000000000)
    (hk : IAt w o.KA o.keep) (hkl : o.keep.length = o.kn) (hkB : o.keep ≠ [] → ∀ ad, o.KA = some ad → ad.block < B) (hkm : o.kn ≤ 9223372036854775807) (ht : Tab w) (hgc : 0 < B) :
    Calls Tryd.prog 22 #[.pointer (some ⟨d, 0, none⟩), .agg o.val] w (DoneP B w F K a pm (n + 4 * N + 50) dev N d (dims + 2) (G + 3)) := by
  obtain ⟨kd, oN, TA, nt, tc, KA, kn, kc, tx, keep⟩ := o
  obtain ⟨AN, cN, rfl, _⟩ := x.now.rows
  dsimp only at hki hNi hrow htl htm htot hk hkl hkB hkm
  have hb1 := below_al' (w := w) (.cells #[.int .i64 kd, .int .i64 oN, .slice TA nt tc, .slice KA kn kc] 54)
  have hop := Blk.new w 54 #[.int .i64 kd, .int .i64 oN, .slice TA nt tc, .slice KA kn kc]
  have hx1 := x.below hb1
  have hfr1 : FrD B w F K a pm n dev F K pm (w.alloc (.cells #[.int .i64 kd, .int .i64 oN, .slice TA nt tc, .slice KA kn kc] 54)) := (FrD.refl x.st).below hb1
  have hk1 := hfr1.kok hKO
  have hlow1 := hfr1.lows x.st hKO hB
  have HT1 := Lib.hid (ht.below hlow1 hgc)
  have HK1 := Lib.hid (keep_at hk hlow1 hkB)
  have HKK := Lib.hid (⟨hkl, hkB⟩ : _ ∧ _)
  have HX := Lib.hid hx1
  have HX0 := Lib.hid x
  have HKO := Lib.hid hk1
  have HF1 := Lib.hid hfr1
  have HOP := Lib.hid hop
  have HB1 : Hid (B ≤ (w.alloc (.cells #[.int .i64 kd, .int .i64 oN, .slice TA nt tc, .slice KA kn kc] 54)).heap.size) := Lib.hid (Nat.le_trans hB hb1.size)
  have HWH := Lib.hid (which_any (w.alloc (.cells #[.int .i64 kd, .int .i64 oN, .slice TA nt tc, .slice KA kn kc] 54)) kd 12 (by omega) (by omega) hki)
  have HROW : Hid (∀ w', Mods (w.alloc (.cells #[.int .i64 kd, .int .i64 oN, .slice TA nt tc, .slice KA kn kc] 54)).heap.size (fun k => F k ∨ K k) (w.alloc (.cells #[.int .i64 kd, .int .i64 oN, .slice TA nt tc, .slice KA kn kc] 54)) w' → RowsAt w' TA tx) := Lib.hid fun w' hm => hrow w' ((Mods.of_below hb1).trans (hm.mono hb1.size fun _ _ h => h))
  have HKO0 := Lib.hid hKO
  have HNI := Lib.hid hNi
  have HNF : Hid (¬ F w.heap.size) := Lib.hid fun h => by have := (x.st.lt _ h).2; omega
  have HNG : Hid (¬ w.heap.size = g) := Lib.hid fun e => by have := Blk.lt x.wal; omega
  have HTX := Lib.hid (⟨htl, htot⟩ : _ ∧ _)
  have n8 := x.jr.n8
  have nm := x.jr.nm
  have c0 : (w.alloc (.cells #[.int .i64 kd, .int .i64 oN, .slice TA nt tc, .slice KA kn kc] 54)).cell? ⟨d, 0, none⟩ = some (.pointer (some ⟨a, 0, none⟩)) := (Blk.cell hx1.desk 0).trans rfl
  have c2 : (w.alloc (.cells #[.int .i64 kd, .int .i64 oN, .slice TA nt tc, .slice KA kn kc] 54)).cell? ⟨d, 2, none⟩ = some (.pointer (some ⟨g, 0, none⟩)) := (Blk.cell hx1.desk 2).trans rfl
  have c3 : (w.alloc (.cells #[.int .i64 kd, .int .i64 oN, .slice TA nt tc, .slice KA kn kc] 54)).cell? ⟨d, 3, none⟩ = some (.slice AN txs.length cN) := (Blk.cell hx1.desk 3).trans rfl
  have q0 : (w.alloc (.cells #[.int .i64 kd, .int .i64 oN, .slice TA nt tc, .slice KA kn kc] 54)).cell? ⟨w.heap.size, 0, none⟩ = some (.int .i64 kd) := (hop.cell 0).trans rfl
  have q1 : (w.alloc (.cells #[.int .i64 kd, .int .i64 oN, .slice TA nt tc, .slice KA kn kc] 54)).cell? ⟨w.heap.size, 1, none⟩ = some (.int .i64 oN) := (hop.cell 1).trans rfl
  have q2 : (w.alloc (.cells #[.int .i64 kd, .int .i64 oN, .slice TA nt tc, .slice KA kn kc] 54)).cell? ⟨w.heap.size, 2, none⟩ = some (.slice TA nt tc) := (hop.cell 2).trans rfl
  have q3 : (w.alloc (.cells #[.int .i64 kd, .int .i64 oN, .slice TA nt tc, .slice KA kn kc] 54)).cell? ⟨w.heap.size, 3, none⟩ = some (.slice KA kn kc) := (hop.cell 3).trans rfl
  clear x hki hNi hrow htl htot hk hkl hkB hb1 hop hx1 hfr1 hk1 hlow1 hKO ht
  have hq12 := whichM_lt kd (n := 12) (by omega)
  generalize whichM kd 12 = q at *
  show Calls Tryd.prog 22 #[.pointer (some ⟨d, 0, none⟩), .agg #[.int .i64 kd, .int .i64 oN, .slice TA nt tc, .slice KA kn kc]] w _
  generalize hw1 : (w.alloc (.cells #[.int .i64 kd, .int .i64 oN, .slice TA nt tc, .slice KA kn kc] 54)) = w1 at *
  go_enter Tryd.func22, Tryd.ntmps22
  go_wp2_with fail
  refine HWH.out.mono ?_
  rintro e _ ⟨rfl, rfl⟩
  clear HWH
  by_cases h7 : q = 7
  · subst h7
    have HTR := Lib.hid (truncate_jr HX.out.st HX.out.disk HB1.out (by omega) HX.out.on HX.out.jr (by omega) HX.out.wal HX.out.gF HT1.out hgc)
    clear c0 c3 q0 q1 q2
    go_wp2_with fail
    refine HTR.out.mono ?_
    rintro e w4 ⟨F4, pm4, hf4, h4⟩
    have hfd4 := hf4.desk (K := K) HX.out.gK
    have hk4 := hfd4.kok HKO.out
    have hne := HX.out.ne
    have hdb4 := Blk.mods HX.out.desk hf4.mods (Blk.lt HX.out.desk) (fun h => h.elim HX.out.dF hne)
    have hop4 := Blk.mods HOP.out hf4.mods HOP.out.lt (fun h => h.elim (fun h => HNF.out h) fun e => HNG.out e)
    have hnow4 := hfd4.calm HX.out.now
    have k3 : w4.cell? ⟨d, 3, none⟩ = some (.slice AN txs.length cN) := (hdb4.cell 3).trans rfl
    have kk : w4.cell? ⟨w.heap.size, 3, none⟩ = some (.slice KA kn kc) := (hop4.cell 3).trans rfl
    have HFD4 := Lib.hid hfd4
    have HDB4 := Lib.hid hdb4
    have HK4 := Lib.hid hk4
    have HN4 := Lib.hid hnow4
    clear hf4 hfd4 hk4 hdb4 hop4 hnow4 HTR c2 q3
    rcases h4 with ⟨rfl, hon4, hw4, H4, hd4, hj4⟩ | ⟨rfl, _, hoff4, ws', hd4, hjj⟩
    · have z3 : w4.frozen? ⟨d, 3, none⟩ = false := HDB4.out.frozen 3
      have z4 : w4.frozen? ⟨d, 4, none⟩ = false := HDB4.out.frozen 4
      have k4 : w4.cell? ⟨d, 4, none⟩ = some (.int .i64 (sumM txs : Int)) := (HDB4.out.cell 4).trans rfl
      have HW4 := Lib.hid (⟨hon4, hw4, hd4, hj4⟩ : _ ∧ _ ∧ _ ∧ _)
      clear hon4 hw4 hd4 hj4 kk
      go_wp2_with fail
      go_ret
      have hdF := (HK4.out d HX.out.dK).2.1
      have hfe := (HFD4.out.cell (d := d) HX.out.dK hdF 3 (.slice none 0 0)).cell (d := d) HX.out.dK hdF 4 (.int .i64 0)
      have hms3 : Mods w4.heap.size (fun j => j = d) w4 (w4.setCell ⟨d, 3, none⟩ (.slice none 0 0)) := (Mods.refl w4.heap.size (fun j => j = d) w4).setCell (p := ⟨d, 3, none⟩) (.inl rfl) _
      have hms4 : Mods (w4.setCell ⟨d, 3, none⟩ (.slice none 0 0)).heap.size (fun j => j = d) (w4.setCell ⟨d, 3, none⟩ (.slice none 0 0)) ((w4.setCell ⟨d, 3, none⟩ (.slice none 0 0)).setCell ⟨d, 4, none⟩ (.int .i64 0)) := (Mods.refl _ (fun j => j = d) _).setCell (p := ⟨d, 4, none⟩) (.inl rfl) _
      have hgd : ¬ g = d := fun e => hne e.symm
      have hwz := Blk.mods (Blk.mods HW4.out.2.1 hms3 (Blk.lt HW4.out.2.1) hgd) hms4 (Blk.lt (Blk.mods HW4.out.2.1 hms3 (Blk.lt HW4.out.2.1) hgd)) hgd
      have hdz := (HDB4.out.set_ 3 (.slice none 0 0)).set_ 4 (.int .i64 0)
      have e4 : (deskCells a dev g (.slice none 0 0) (sumM []) N dims).toArray = ((deskCells a dev g (.slice AN txs.length cN) (sumM txs) N dims).toArray.setIfInBounds 3 (.slice none 0 0)).setIfInBounds 4 (.int .i64 0) := by simp [deskCells, sumM]
      have hkz := hfe.kok HKO.out
      refine ⟨F4, K, pm4, g, .slice none 0 0, [], dims, H4, G + 1, G + 1, 2, rfl, (HF1.out.trans hfe).e.more (by omega), ⟨st_more hfe.st (by omega), HW4.out.2.2.1, HW4.out.1, HW4.out.2.2.2, hwz, ?_, TxsAt.nil_ _ _ _, HX.out.gK, HX.out.dK, (hkz g HX.out.gK).2.1, hdF, HX.out.gB, HX.out.dB⟩, hkz, by omega, by omega⟩
      show Blk _ _ _ _
      rw [e4]
      exact hdz
    · have hB4 : B ≤ w4.heap.size := Nat.le_trans HB1.out HFD4.out.mods.size
      have hbd : Below w4.heap.size w4 ((w4.alloc (.cells #[] 42)).alloc (.cells #[.slice AN txs.length cN, .slice (some ⟨w4.heap.size, 0, none⟩) 0 0] 38)).drew := (below_drewN (Below.refl w4.heap.size w4) 1).trans (below2 w4.drew (.cells #[] 42) (.cells #[.slice AN txs.length cN, .slice (some ⟨w4.heap.size, 0, none⟩) 0 0] 38))
      have hmay : MayAt ((w4.alloc (.cells #[] 42)).alloc (.cells #[.slice AN txs.length cN, .slice (some ⟨w4.heap.size, 0, none⟩) 0 0] 38)).drew (Calm B F4 K) [txs, []] (.slice (some ⟨w4.heap.size + 1, 0, none⟩) 2 2) := by
        have h := MayAt.new (w4.drew.alloc (.cells #[] 42)) (mays := [txs, []]) (J := Calm B F4 K) [.slice AN txs.length cN, .slice (some ⟨w4.heap.size, 0, none⟩) 0 0] rfl (by simp) (fun k t hk => by
          rcases k with _ | _ | k
          · simp at hk
            subst hk
            exact ⟨_, rfl, TxsAt.below (TxsAt.below HN4.out (below_drewN (Below.refl _ _) 1)) (below_al' _)⟩
          · simp at hk
            subst hk
            exact ⟨_, rfl, TxsAt.nil_ _ _ _⟩
          · simp at hk) ⟨by simp; omega, fun h => by have := (HFD4.out.st.lt _ h).2; simp at this; omega, fun h => by have := (HK4.out _ h).2.2; simp at this; omega⟩
        rw [show (w4.drew.alloc (.cells #[] 42)).heap.size = w4.heap.size + 1 by simp] at h
        exact h
      have hfz := HFD4.out.below hbd
      have hk8 := hfz.kok HKO.out
      have hx29 : DskX B ((w4.alloc (.cells #[] 42)).alloc (.cells #[.slice AN txs.length cN, .slice (some ⟨w4.heap.size, 0, none⟩) 0 0] 38)).drew F4 K a pm4 (n + 2) dev N d dims H ws' (G + 1) [txs, []] := by
        refine ⟨hfz.st, hd4, hoff4, fun vs hvs => ?_, ⟨_, _, _, HDB4.out.below_ hbd⟩, HX.out.dK, (hk8 d HX.out.dK).2.1, HX.out.dB⟩
        rcases hjj vs hvs with h | h
        · exact ⟨_, _, _, _, txs, by omega, by simp, h⟩
        · exact ⟨_, _, _, _, [], Nat.le_refl _, by simp, h⟩
      have hlow8 := hfz.lows HX.out.st HKO.out HB1.out
      have HDK := Lib.hid (dark_any hx29 (Nat.le_trans hB4 hbd.size) (by omega) (by omega) (by omega) hk8 KA kn kc keep (keep_at HK1.out hlow8 HKK.out.2) HKK.out.1 HKK.out.2 hkm hmay (by simp) (HT1.out.below hlow8 hgc) hgc)
      have HFZ := Lib.hid (HF1.out.trans hfz)
      clear hbd hmay hfz hk8 hx29 hlow8 hB4 hd4 hjj hoff4
      go_wp2_with fail
      refine Ord.region_ord [7, 8] [0, 1, 2, 3, 4, 5, 6, 7, 8, 9, 10] (by kernel_rfl) (by kernel_rfl) (by kernel_rfl) (by kernel_rfl) (Ord.ord_run [0, 1, 2, 3, 4, 5, 6] [_, _, _, _, _, _, _] rfl (by kernel_rfl) ?_)
      go_wp2_with fail
      refine Ord.nx_ord (Ord.ord_one rfl ?_)
      go_wp2_with fail
      refine Ord.nx_and (below_al' (w := w4.drew) (.cells #[] 42)) (Ord.ord_one rfl ?_)
      go_wp2_with fail
      refine Ord.nx_and (below_al' (w := w4.drew.alloc (.cells #[] 42)) (.cells #[.slice AN txs.length cN, .slice (some ⟨w4.heap.size, 0, none⟩) 0 0] 38)) (Ord.ord_all [_, _] rfl (by kernel_rfl) ?_)
      go_wp2_with fail
      refine HDK.out.mono ?_
      rintro e wz h
      clear HDK
      obtain ⟨F', K', pm', g', v', txs', dims', H', G', E', nx', rfl, hf, y, hk', hG', hd'⟩ := DoneP.of HFZ.out.e h
      have HY := Lib.hid (⟨hf, y, hk'⟩ : _ ∧ _ ∧ _)
      clear h hf y hk'
      go_wp2_with fail
      refine Ord.nx_end ?_
      go_wp2_with fail
      go_ret
      have y := HY.out.2.1
      exact ⟨F', K', pm', g', v', txs', dims', H', G', E', nx', rfl, HY.out.1.more (by omega), ⟨st_more y.st (by omega), y.disk, y.on, y.jr, y.wal, y.desk, y.now, y.gK, y.dK, y.gF, y.dF, y.gB, y.dB⟩, HY.out.2.2, by omega, by omega⟩
  by_cases h8 : q = 8
  · subst h8
    have hbd : Below w1.heap.size w1 (w1.alloc (.cells #[.slice AN txs.length cN] 38)).drew := (below_drewN (Below.refl w1.heap.size w1) 1).trans (below_al' (w := w1.drew) (.cells #[.slice AN txs.length cN] 38))
    have hx8 := HX.out.below hbd
    have hmay : MayAt (w1.alloc (.cells #[.slice AN txs.length cN] 38)).drew (Calm B F K) [txs] (.slice (some ⟨w1.heap.size, 0, none⟩) 1 1) := may_one (w := w1.drew) HB1.out (fun k h => (HX.out.st.lt k h).2) (fun k h => (HKO.out k h).2.2) (TxsAt.below HX.out.now (below_drewN (Below.refl _ _) 1))
    have hfz := HF1.out.below hbd
    have hk8 := hfz.kok (fun k h => ⟨(HKO.out k h).1, (HKO.out k h).2.1, by have := (HKO0.out k h).2.2; exact this⟩ : KOk B w F K)
    have HOPZ := Lib.hid (opened_any hx8.dsk0 (Nat.le_trans HB1.out hbd.size) (by omega) (by omega) (by omega) (fun k h => ⟨(hk8 k h).1, (hk8 k h).2.1⟩) KA kn kc keep (HK1.out.below hbd) HKK.out.1 HKK.out.2 hkm hmay (by simp) (by simp) (HT1.out.below hbd (Nat.lt_of_lt_of_le hgc HB1.out)) hgc)
    have HKZ := Lib.hid hk8
    have HFZ := Lib.hid hfz
    clear hbd hx8 hmay hfz hk8 c0 c2 q0 q1 q2
    go_wp2_with fail
    refine Ord.region_ord [7] [0, 1, 2, 3, 4, 5, 6, 7, 8, 9] (by kernel_rfl) (by kernel_rfl) (by kernel_rfl) (by kernel_rfl) (Ord.ord_run [0, 1, 2, 3, 4, 5, 6] [_, _, _, _, _, _, _] rfl (by kernel_rfl) ?_)
    go_wp2_with fail
    refine Ord.nx_ord (Ord.ord_one rfl ?_)
    go_wp2_with fail
    refine Ord.nx_and (below_al' (w := w1.drew) (.cells #[.slice AN txs.length cN] 38)) (Ord.ord_all [_, _] rfl (by kernel_rfl) ?_)
    go_wp2_with fail
    refine HOPZ.out.mono ?_
    rintro e wz hz
    have h := OpenedP.done hz HKZ.out
    clear hz HOPZ
    obtain ⟨F', K', pm', g', v', txs', dims', H', G', E', nx', rfl, hf, y, hk', hG', hd'⟩ := DoneP.of HFZ.out.e h
    have HY := Lib.hid (⟨hf, y, hk'⟩ : _ ∧ _ ∧ _)
    clear h hf y hk'
    go_wp2_with fail
    refine Ord.nx_end ?_
    go_wp2_with fail
    go_ret
    have y := HY.out.2.1
    exact ⟨F', K', pm', g', v', txs', dims', H', G', E', nx', rfl, HY.out.1.more (by omega), ⟨st_more y.st (by omega), y.disk, y.on, y.jr, y.wal, y.desk, y.now, y.gK, y.dK, y.gF, y.dF, y.gB, y.dB⟩, HY.out.2.2, by omega, by omega⟩
  by_cases h9 : q = 9
  · subst h9
    have hbd : Below w1.heap.size w1 w1.drew := below_drewN (Below.refl w1.heap.size w1) 1
    have HFU := Lib.hid (St.setFuse (HX.out.st.below hbd) (show B ≤ w1.drew.heap.size from HB1.out) oN (by have := HNI.out.2; omega))
    clear c2 c3 q2 q3 hbd
    go_wp2_with fail
    refine Ord.region_ord [] [0, 1, 2, 3, 4, 5, 6] (by kernel_rfl) (by kernel_rfl) (by kernel_rfl) (by kernel_rfl) (Ord.ord_all [_, _, _, _, _, _, _] rfl (by kernel_rfl) ?_)
    go_wp2_with fail
    refine HFU.out.mono ?_
    rintro e w4 ⟨rfl, hs4, hm4⟩
    have HM4 := Lib.hid (⟨hs4, hm4⟩ : _ ∧ _)
    clear hs4 hm4 HFU
    go_wp2_with fail
    refine Ord.nx_end ?_
    go_wp2_with fail
    go_ret
    have hm4 := HM4.out.2
    have hx1 := HX.out.below (below_drewN (Below.refl w1.heap.size w1) 1 : Below w1.heap.size w1 w1.drew)
    have hfe : FrE B w1.drew F K a pm (n + 1) dev (Grow F w1.drew w4) K (pm.setFuse oN) w4 := ⟨grow_new, fun _ h => .inl h, hm4.mono (Nat.le_refl _) fun _ _ h => .inl h, HM4.out.1, fun j N H _ hd => (hd.fuse _).1⟩
    have hk4 := hfe.kok (B := B) (w := w1.drew) (fun k h => HKO.out k h)
    refine ⟨_, K, _, g, _, txs, dims, H, G, E, nx, rfl, ((HF1.out.e.below (below_drewN (Below.refl w1.heap.size w1) 1)).trans hfe).more (by omega), ⟨st_more hfe.st (by omega), (HX.out.disk.fuse oN).1, (HX.out.disk.fuse oN).2.trans HX.out.on, HX.out.jr, Blk.mods hx1.wal hm4 (Blk.lt hx1.wal) HX.out.gF, Blk.mods hx1.desk hm4 (Blk.lt hx1.desk) HX.out.dF, hfe.calm hx1.now, HX.out.gK, HX.out.dK, (hk4 g HX.out.gK).2.1, (hk4 d HX.out.dK).2.1, HX.out.gB, HX.out.dB⟩, hk4, by omega, by omega⟩
  by_cases h10 : q = 10
  · subst h10
    have hbd : Below w1.heap.size w1 w1.drew := below_drewN (Below.refl w1.heap.size w1) 1
    have HBT := Lib.hid (St.booted (K := fun _ => False) (dev := dev) (HX.out.st.below hbd) (show B ≤ w1.drew.heap.size from HB1.out) (by omega) KA kn kc keep (HK1.out.below hbd) HKK.out.1 (fun hne ad hA hF => by have h1 := (HX.out.st.lt _ hF).1; have h2 := HKK.out.2 hne ad hA; omega) hkm)
    clear hbd c2 q0 q1 q2
    go_wp2_with fail
    refine Ord.region_ord [] [0, 1, 2, 3, 4, 5, 6] (by kernel_rfl) (by kernel_rfl) (by kernel_rfl) (by kernel_rfl) (Ord.ord_all [_, _, _, _, _, _, _] rfl (by kernel_rfl) ?_)
    go_wp2_with fail
    refine HBT.out.mono ?_
    rintro e w4 ⟨rfl, hf4⟩
    have hx1 := HX.out.below (below_drewN (Below.refl w1.heap.size w1) 1 : Below w1.heap.size w1 w1.drew)
    have hf4k : FrD B w1.drew F K a pm (n + 1) dev (Grow F w1.drew w4) K (pm.boot keep) w4 := ⟨hf4.grow, fun _ h => .inl h, hf4.mods.mono (Nat.le_refl _) fun k _ h => h.imp id False.elim, hf4.st, hf4.els, hf4.fuse⟩
    have hk4 := hf4k.kok (w := w1.drew) (fun k h => HKO.out k h)
    have hdb4 := Blk.mods hx1.desk hf4.mods (Blk.lt hx1.desk) (fun h => h.elim HX.out.dF id)
    have hop4 := Blk.mods (show Blk w1.drew w.heap.size _ _ from HOP.out) hf4.mods HOP.out.lt (fun h => h.elim (fun h => HNF.out h) id)
    have hlow4 := hf4k.lows (show St B w1.drew F a pm n from HX.out.st.below (below_drewN (Below.refl w1.heap.size w1) 1)) (fun k h => HKO.out k h) (show B ≤ w1.drew.heap.size from HB1.out)
    have hd4 : Disk (pm.boot keep) dev N H [] := by
      obtain ⟨vs, h1, h2⟩ := HX.out.disk.boot keep
      rw [List.sublist_nil.1 h2] at h1
      exact h1
    have k3 : w4.cell? ⟨d, 3, none⟩ = some (.slice AN txs.length cN) := (hdb4.cell 3).trans rfl
    have kk : w4.cell? ⟨w.heap.size, 3, none⟩ = some (.slice KA kn kc) := (hop4.cell 3).trans rfl
    have hB4 : B ≤ w4.heap.size := Nat.le_trans HB1.out hf4k.mods.size
    have hbd : Below w4.heap.size w4 (w4.alloc (.cells #[.slice AN txs.length cN] 38)).drew := (below_drewN (Below.refl w4.heap.size w4) 1).trans (below_al' (w := w4.drew) (.cells #[.slice AN txs.length cN] 38))
    have hnow := hf4k.calm hx1.now
    have hmay : MayAt (w4.alloc (.cells #[.slice AN txs.length cN] 38)).drew (Calm B (Grow F w1.drew w4) K) [txs] (.slice (some ⟨w4.heap.size, 0, none⟩) 1 1) := may_one (w := w4.drew) hB4 (fun k h => (hf4k.st.lt k h).2) (fun k h => (hk4 k h).2.2) (TxsAt.below hnow (below_drewN (Below.refl _ _) 1))
    have hfz := hf4k.below hbd
    have hk8 := hfz.kok (w := w1.drew) (fun k h => HKO.out k h)
    have hx0 : Dsk0 B (w4.alloc (.cells #[.slice AN txs.length cN] 38)).drew (Grow F w1.drew w4) K a (pm.boot keep) (n + 1) dev N d txs dims H G E G nx := ⟨hfz.st, hd4, rfl, HX.out.jr, ⟨_, _, _, hdb4.below_ hbd⟩, HX.out.dK, (hk8 d HX.out.dK).2.1, HX.out.dB⟩
    have hlow8 := hlow4.trans (hbd.mono hB4)
    have HOPZ := Lib.hid (opened_any hx0 (Nat.le_trans hB4 hbd.size) (by omega) (by omega) (by omega) (fun k h => ⟨(hk8 k h).1, (hk8 k h).2.1⟩) KA kn kc keep (keep_at (w0 := w1.drew) (HK1.out.below (below_drewN (Below.refl w1.heap.size w1) 1)) hlow8 HKK.out.2) HKK.out.1 HKK.out.2 hkm hmay (by simp) (by simp) ((HT1.out.below (below_drewN (Below.refl w1.heap.size w1) 1 : Below w1.heap.size w1 w1.drew) (Nat.lt_of_lt_of_le hgc HB1.out)).below hlow8 hgc) hgc)
    have HKZ := Lib.hid hk8
    have HFZ := Lib.hid ((HF1.out.below (below_drewN (Below.refl w1.heap.size w1) 1 : Below w1.heap.size w1 w1.drew)).trans hfz)
    clear hbd hnow hmay hfz hk8 hx0 hlow8 hB4 hd4 hlow4 hop4 hdb4 hk4 hf4k hx1 hf4 c0 c3 q3 HBT
    go_wp2_with fail
    refine Ord.nx_end ?_
    go_wp2_with fail
    refine Ord.region_ord [7] [0, 1, 2, 3, 4, 5, 6, 7, 8, 9] (by kernel_rfl) (by kernel_rfl) (by kernel_rfl) (by kernel_rfl) (Ord.ord_run [0, 1, 2, 3, 4, 5, 6] [_, _, _, _, _, _, _] rfl (by kernel_rfl) ?_)
    go_wp2_with fail
    refine Ord.nx_ord (Ord.ord_one rfl ?_)
    go_wp2_with fail
    refine Ord.nx_and (below_al' (w := w4.drew) (.cells #[.slice AN txs.length cN] 38)) (Ord.ord_all [_, _] rfl (by kernel_rfl) ?_)
    go_wp2_with fail
    refine HOPZ.out.mono ?_
    rintro e wz hz
    have h := OpenedP.done hz HKZ.out
    clear hz HOPZ
    obtain ⟨F', K', pm', g', v', txs', dims', H', G', E', nx', rfl, hf, y, hk', hG', hd'⟩ := DoneP.of HFZ.out.e h
    have HY := Lib.hid (⟨hf, y, hk'⟩ : _ ∧ _ ∧ _)
    clear h hf y hk'
    go_wp2_with fail
    refine Ord.nx_end ?_
    go_wp2_with fail
    go_ret
    have y := HY.out.2.1
    exact ⟨F', K', pm', g', v', txs', dims', H', G', E', nx', rfl, HY.out.1.more (by omega), ⟨st_more y.st (by omega), y.disk, y.on, y.jr, y.wal, y.desk, y.now, y.gK, y.dK, y.gF, y.dF, y.gB, y.dB⟩, HY.out.2.2, by omega, by omega⟩
  by_cases h11 : q = 11
  · subst h11
    have HAP : Hid (Calls Tryd.prog 49 #[.pointer (some ⟨d, 0, none⟩), .agg #[.int .i64 kd, .int .i64 oN, .slice TA nt tc, .slice KA kn kc]] w1 (DoneP B w1 F K a pm (n + 4 * N + 20) dev N d (dims + 2) (G + 3))) := Lib.hid
      (format_desk (o := ⟨kd, oN, TA, nt, tc, KA, kn, kc, tx, keep⟩) HX.out HB1.out (by omega) (by omega) (by omega) HKO.out HK1.out HKK.out.1 HKK.out.2 hkm HT1.out hgc)
    clear c0 c2 c3
    go_wp2_with fail
    refine HAP.out.mono ?_
    rintro e wz h
    clear HAP
    obtain ⟨F', K', pm', g', v', txs', dims', H', G', E', nx', rfl, hf, y, hk', hG', hd'⟩ := DoneP.of HF1.out.e h
    have HY := Lib.hid (⟨hf, y, hk'⟩ : _ ∧ _ ∧ _)
    clear h hf y hk'
    go_wp2_with fail
    go_ret
    have y := HY.out.2.1
    exact ⟨F', K', pm', g', v', txs', dims', H', G', E', nx', rfl, HY.out.1.more (by omega), ⟨st_more y.st (by omega), y.disk, y.on, y.jr, y.wal, y.desk, y.now, y.gK, y.dK, y.gF, y.dF, y.gB, y.dB⟩, HY.out.2.2, by omega, by omega⟩
  · have e7 : ((q : Int) == 7) = false := by simp; omega
    have e8 : ((q : Int) == 8) = false := by simp; omega
    have e9 : ((q : Int) == 9) = false := by simp; omega
    have e10 : ((q : Int) == 10) = false := by simp; omega
    have e11 : ((q : Int) == 11) = false := by simp; omega
    have HAP : Hid (Calls Tryd.prog 25 #[.pointer (some ⟨d, 0, none⟩), .agg #[.int .i64 kd, .int .i64 oN, .slice TA nt tc, .slice KA kn kc]] w1 (DoneP B w1 F K a pm (n + 40) dev N d (dims + 2) (G + 2))) := Lib.hid
      (append_any (o := ⟨kd, oN, TA, nt, tc, KA, kn, kc, tx, keep⟩) HX.out HB1.out (by omega) (by omega) (by omega) HKO.out HROW.out HTX.out.1 htm HTX.out.2 HK1.out HKK.out.1 HKK.out.2 hkm HT1.out hgc)
    clear c0 c2 c3
    go_wp2_with fail
    refine HAP.out.mono ?_
    rintro e wz h
    clear HAP
    obtain ⟨F', K', pm', g', v', txs', dims', H', G', E', nx', rfl, hf, y, hk', hG', hd'⟩ := DoneP.of HF1.out.e h
    have HY := Lib.hid (⟨hf, y, hk'⟩ : _ ∧ _ ∧ _)
    clear h hf y hk'
    go_wp2_with fail
    go_ret
    have y := HY.out.2.1
    exact ⟨F', K', pm', g', v', txs', dims', H', G', E', nx', rfl, HY.out.1.more (by omega), ⟨st_more y.st (by omega), y.disk, y.on, y.jr, y.wal, y.desk, y.now, y.gK, y.dK, y.gF, y.dF, y.gB, y.dB⟩, HY.out.2.2, by omega, by omega⟩
end Go.Proofs.YtlnfeehokpkgiaaDoor.Wal
