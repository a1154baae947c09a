/- The desk's 'format'. -/
import Derived.Test.YtlnfeehokpkgiaaDoorWalAppend
namespace Go.Proofs.YtlnfeehokpkgiaaDoor.Wal
open Go Go.RowKit Mem Pl Disk Crc _root_.Go.Proofs.YtlnfeehokpkgiaaDoor.Frame
/-- A row of one row that is empty. -/
theorem may_nil {B : Nat} {w : World} {F K : Nat → Prop} (hB : B ≤ w.heap.size) (hF : ∀ k, F k → k < w.heap.size) (hK : ∀ k, K k → k < w.heap.size) :
    MayAt ((w.alloc (.cells #[] 42)).alloc (.cells #[.slice (some ⟨w.heap.size, 0, none⟩) 0 0] 38)) (Calm B F K) [[]] (.slice (some ⟨w.heap.size + 1, 0, none⟩) 1 1) := by
  have h := MayAt.new (w.alloc (.cells #[] 42)) (mays := [[]]) (J := Calm B F K) [.slice (some ⟨w.heap.size, 0, none⟩) 0 0] rfl (by simp) (fun k t hk => by
    rcases k with _ | k
    · simp at hk
      subst hk
      exact ⟨_, rfl, TxsAt.nil_ _ _ _⟩
    · simp at hk) ⟨by simp; omega, fun h => by have := hF _ h; simp at this; omega, fun h => by have := hK _ h; simp at this; omega⟩
  simpa using h
set_option maxRecDepth 100000 in
set_option maxHeartbeats 16000000 in
theorem format_desk {B : Nat} {w : World} {F K : Nat → Prop} {a : Nat} {pm : PM} {n dev N d g : Nat} {v : Value} {txs : List Tx} {dims : Nat} {H : List (List UInt8)} {G E nx : Nat} (x : Dsk B w F K a pm n dev N d g v txs (sumM txs) dims H G E nx) (hB : B ≤ w.heap.size) (hn : n ≤ 520000000) (hG : G + 6 < 4000000000) (hdm : dims ≤ 800000000000)
    (hKO : KOk B w F K) (o : OpW)
    (hk : IAt w o.KA o.keep) (hkl : o.keep.length = o.kn) (hkB : o.keep ≠ [] → ∀ ad, o.KA = some ad → ad.block < B) (hkm : o.kn ≤ 9223372036854775807) (ht : Tab w) (hgc : 0 < B) :
    Calls Tryd.prog 49 #[.pointer (some ⟨d, 0, none⟩), .agg o.val] w (DoneP B w F K a pm (n + 4 * N + 20) dev N d (dims + 2) (G + 3)) := by
  obtain ⟨kd, oN, TA, nt, tc, KA, kn, kc, tx, keep⟩ := o
  obtain ⟨AN, cN, rfl, _⟩ := x.now.rows
  dsimp only at hk hkl hkB hkm
  have HX := Lib.hid x
  have HKO := Lib.hid hKO
  have HK := Lib.hid (⟨hk, hkl, hkB⟩ : _ ∧ _ ∧ _)
  have HT := Lib.hid ht
  have n8 := x.jr.n8
  have nm := x.jr.nm
  have hb1 : Below w.heap.size w (w.alloc (.cells #[.int .i64 kd, .int .i64 oN, .slice TA nt tc, .slice KA kn kc] 54)).drew := below_drewN (below_al' _) 1
  have hop := Blk.new w 54 #[.int .i64 kd, .int .i64 oN, .slice TA nt tc, .slice KA kn kc]
  have hop1 : Blk (w.alloc (.cells #[.int .i64 kd, .int .i64 oN, .slice TA nt tc, .slice KA kn kc] 54)).drew w.heap.size 54 #[.int .i64 kd, .int .i64 oN, .slice TA nt tc, .slice KA kn kc] := hop
  have HOP := Lib.hid hop1
  have hx1 := x.below hb1
  have c0 : (w.alloc (.cells #[.int .i64 kd, .int .i64 oN, .slice TA nt tc, .slice KA kn kc] 54)).cell? ⟨d, 0, none⟩ = some (.pointer (some ⟨a, 0, none⟩)) := (Blk.cell hx1.desk 0).trans rfl
  have c1 : (w.alloc (.cells #[.int .i64 kd, .int .i64 oN, .slice TA nt tc, .slice KA kn kc] 54)).cell? ⟨d, 1, none⟩ = some (.int .i64 (dev : Int)) := (Blk.cell hx1.desk 1).trans rfl
  have HDB := Lib.hid hx1.desk
  have HB1 := Lib.hid hb1
  have HFM := Lib.hid (format_on hx1.st x.disk (Nat.le_trans hB hb1.size) (by omega) x.on n8 (ht.below hb1 (Nat.lt_of_lt_of_le hgc hB)) hgc)
  have hdl := Blk.lt x.desk
  have HJN := Lib.hid x.jr.newest
  clear x hKO hk hkl hkB ht hb1 hop hop1 hx1
  show Calls Tryd.prog 49 #[.pointer (some ⟨d, 0, none⟩), .agg #[.int .i64 kd, .int .i64 oN, .slice TA nt tc, .slice KA kn kc]] w _
  go_enter Tryd.func49, Tryd.ntmps49
  go_wp2_with fail
  refine Ord.region_ord [] [0, 1, 2, 3, 4, 5, 6, 7, 8, 9] (by kernel_rfl) (by kernel_rfl) (by kernel_rfl) (by kernel_rfl) (Ord.ord_all [_, _, _, _, _, _, _, _, _, _] rfl (by kernel_rfl) ?_)
  go_wp2_with fail
  refine HFM.out.mono ?_
  rintro e w2 ⟨F2, pm2, hf2, h2⟩
  have hdb2 := Blk.mods HDB.out hf2.mods HDB.out.lt HX.out.dF
  have hop2 := Blk.mods HOP.out hf2.mods HOP.out.lt (fun h => by have := (HX.out.st.lt _ h).2; omega)
  have hfd2 : FrD B w F K a pm (n + 2 * N + 2) dev F2 K pm2 w2 := (hf2.desk (K := K)).of_below HB1.out
  have HFD2 := Lib.hid hfd2
  have hk2 := hfd2.kok HKO.out
  have HK2 := Lib.hid hk2
  have hlow2 := hfd2.lows HX.out.st HKO.out hB
  have hdF2 : ¬ F2 d := (hk2 d HX.out.dK).2.1
  have hoF2 : ¬ F2 w.heap.size := fun h => by
    rcases hf2.grow _ h with h | h
    · have := (HX.out.st.lt _ h).2; omega
    · simp at h
      omega
  have HOF2 := Lib.hid hoF2
  have HD2 := Lib.hid (⟨hdb2, hop2, hlow2, hdF2⟩ : _ ∧ _ ∧ _ ∧ _)
  have kk : w2.cell? ⟨w.heap.size, 3, none⟩ = some (.slice KA kn kc) := by rw [hop2.cell]; rfl
  have z0 : w2.cell? ⟨d, 0, none⟩ = some (.pointer (some ⟨a, 0, none⟩)) := (Blk.cell hdb2 0).trans rfl
  have hsz2 := hfd2.mods.size
  clear hoF2 hf2 hdb2 hop2 hfd2 hk2 hlow2 hdF2 c0 c1 HFM
  rcases h2 with ⟨rfl, hd2, hon2⟩ | ⟨rfl, hfu2, hoff2, H', ws', hd2, hcut⟩
  · go_wp2_with fail
    refine Ord.nx_end ?_
    have hb3 := below2 w2 (.cells #[] 42) (.cells #[.slice (some ⟨w2.heap.size, 0, none⟩) 0 0] 38)
    have hmay := may_nil (w := w2) (Nat.le_trans hB hsz2) (fun k h => (HFD2.out.st.lt k h).2) (fun k h => (HK2.out k h).2.2)
    have hx0 : Dsk0 B ((w2.alloc (.cells #[] 42)).alloc (.cells #[.slice (some ⟨w2.heap.size, 0, none⟩) 0 0] 38)) F2 K a pm2 (n + 2 * N + 2) dev N d [] dims (freshH N) 1 1 1 2 :=
      ⟨HFD2.out.st.below hb3, hd2, hon2, Jr.fresh n8 nm, ⟨_, _, _, HD2.out.1.below_ hb3⟩, HX.out.dK, HD2.out.2.2.2, HX.out.dB⟩
    have hlow3 := HD2.out.2.2.1.trans (hb3.mono (Nat.le_trans hB hsz2))
    have HOP3 := Lib.hid (opened_any hx0 (Nat.le_trans (Nat.le_trans hB hsz2) hb3.size) (by omega) (by omega) (by omega) (fun k h => ⟨(HK2.out k h).1, (HK2.out k h).2.1⟩) KA kn kc keep (keep_at HK.out.1 hlow3 HK.out.2.2) HK.out.2.1 HK.out.2.2 hkm hmay (by simp) (by simp) (HT.out.below hlow3 hgc) hgc)
    have HB3 := Lib.hid hb3
    clear hb3 hmay hx0 hlow3
    go_wp2_with fail
    refine HOP3.out.mono ?_
    rintro e w4 h
    obtain ⟨F', K', pm', g', v', txs', dims', H', G', E', nx', rfl, hf, y, hk', hG', hd'⟩ := DoneP.of (HFD2.out.below HB3.out).e (OpenedP.done h fun k hk => ⟨(HK2.out k hk).1, (HK2.out k hk).2.1, Nat.lt_of_lt_of_le (HK2.out k hk).2.2 HB3.out.size⟩)
    have HY := Lib.hid (⟨hf, y, hk'⟩ : _ ∧ _ ∧ _)
    have hG1 := HX.out.jr.g1
    clear h hf y hk' HOP3
    go_wp2_with fail
    go_ret
    have y := HY.out.2.1
    exact ⟨F', K', pm', g', v', txs', dims', H', G', E', nx', rfl, HY.out.1.more (by omega), ⟨st_more y.st (by omega), y.disk, y.on, y.jr, y.wal, y.desk, y.now, y.gK, y.dK, y.gF, y.dF, y.gB, y.dB⟩, HY.out.2.2, by omega, by omega⟩
  · have hon := Pl.on_any HFD2.out.st.at_
    rw [hoff2] at hon
    have HON := Lib.hid hon
    have hbd2 : Below w2.heap.size w2 w2.drew := below_drewN (Below.refl _ _) 1
    have HBT := Lib.hid (St.booted (K := fun _ => False) (dev := dev) (HFD2.out.st.below hbd2) (Nat.le_trans hB hsz2) (by omega) KA kn kc keep (keep_at HK.out.1 (HD2.out.2.2.1.trans (hbd2.mono (Nat.le_trans hB hsz2))) HK.out.2.2) HK.out.2.1 (fun hne ad hA hF => by have h1 := (HFD2.out.st.lt _ hF).1; have h2 := HK.out.2.2 hne ad hA; omega) hkm)
    have hcut' : FmtCut N (G % 2) H [] H' ws' := by
      have := hcut
      rwa [virt_nil, HJN.out] at this
    have HCU := Lib.hid (⟨hcut', hd2⟩ : _ ∧ _)
    clear hon hbd2 hcut hcut' hd2 hoff2 hfu2
    go_wp2_with fail
    refine Ord.nx_end ?_
    go_wp2_with fail
    refine HON.out.mono ?_
    rintro e _ ⟨rfl, rfl⟩
    go_wp2_with fail
    refine Ord.region_ord [] [0, 1, 2, 3, 4, 5, 6] (by kernel_rfl) (by kernel_rfl) (by kernel_rfl) (by kernel_rfl) (Ord.ord_all [_, _, _, _, _, _, _] rfl (by kernel_rfl) ?_)
    go_wp2_with fail
    refine HBT.out.mono ?_
    rintro e w4 ⟨rfl, hf4⟩
    have hdb4 := Blk.mods (show Blk w2.drew d _ _ from HD2.out.1) hf4.mods HD2.out.1.lt (fun h => h.elim HD2.out.2.2.2 id)
    have hop4 := Blk.mods (show Blk w2.drew w.heap.size _ _ from HD2.out.2.1) hf4.mods HD2.out.2.1.lt (fun h => h.elim HOF2.out id)
    have hoF4 : ¬ Grow F2 w2.drew w4 w.heap.size := fun hF => (grow_new _ hF).elim HOF2.out fun h1 => by
      have h1 : w2.heap.size ≤ w.heap.size := h1
      have h2 := HD2.out.2.1.lt
      omega
    have HOF4 := Lib.hid hoF4
    have hf4k : FrD B w2.drew F2 K a pm2 (n + 2 * N + 2 + 1) dev (Grow F2 w2.drew w4) K (pm2.boot keep) w4 := ⟨hf4.grow, fun _ h => .inl h, hf4.mods.mono (Nat.le_refl _) fun k _ h => h.imp id False.elim, hf4.st, hf4.els, hf4.fuse⟩
    have hfd4 := (HFD2.out.below (below_drewN (Below.refl w2.heap.size w2) 1)).trans hf4k
    have hdF4 := (hfd4.kok HKO.out d HX.out.dK).2.1
    obtain ⟨dn, hdn⟩ : ∃ k, dims + 1 = k := ⟨_, rfl⟩
    have hwd : IntKind.i64.wrap ((dims : Int) + 1) = (dn : Int) := by rw [show (dims : Int) + 1 = (dn : Int) by omega]; exact IntWalk.i64_in _ (by omega)
    have hfd5 := hfd4.cell HX.out.dK hdF4 6 (.int .i64 (dn : Int))
    have k6 : w4.cell? ⟨d, 6, none⟩ = some (.int .i64 (dims : Int)) := (hdb4.cell 6).trans rfl
    have z6 : w4.frozen? ⟨d, 6, none⟩ = false := hdb4.frozen 6
    have k0 : w4.cell? ⟨d, 0, none⟩ = some (.pointer (some ⟨a, 0, none⟩)) := (hdb4.cell 0).trans rfl
    have k1 : w4.cell? ⟨d, 1, none⟩ = some (.int .i64 (dev : Int)) := (hdb4.cell 1).trans rfl
    have hdb5 := hdb4.set_ 6 (.int .i64 (dn : Int))
    have hwz : w.heap.size ≠ d := by omega
    have hms5 : Mods w4.heap.size (fun j => j = d) w4 (w4.setCell ⟨d, 6, none⟩ (.int .i64 (dn : Int))) := (Mods.refl w4.heap.size (fun j => j = d) w4).setCell (p := ⟨d, 6, none⟩) (.inl rfl) _
    have hop5 := Blk.mods hop4 hms5 hop4.lt hwz
    obtain ⟨vs, hv1, hv2⟩ := HCU.out.2.boot keep
    have hjc := HX.out.jr.cut HCU.out.1 hv2
    have HDB5 : Hid (Blk (w4.setCell ⟨d, 6, none⟩ (.int .i64 (dn : Int))).drew d 58 #[.pointer (some ⟨a, 0, none⟩), .int .i64 (dev : Int), .pointer (some ⟨g, 0, none⟩), .slice AN txs.length cN, .int .i64 (sumM txs : Int), .int .i64 (N : Int), .int .i64 (dn : Int)]) := Lib.hid (by
      have h1 : Blk (w4.setCell ⟨d, 6, none⟩ (.int .i64 (dn : Int))).drew d _ _ := hdb5
      simpa [deskCells] using h1)
    have HOP5 : Hid (Blk (w4.setCell ⟨d, 6, none⟩ (.int .i64 (dn : Int))).drew w.heap.size 54 #[.int .i64 kd, .int .i64 oN, .slice TA nt tc, .slice KA kn kc]) := Lib.hid hop5
    have hbd5 : Below (w4.setCell ⟨d, 6, none⟩ (.int .i64 (dn : Int))).heap.size (w4.setCell ⟨d, 6, none⟩ (.int .i64 (dn : Int))) (w4.setCell ⟨d, 6, none⟩ (.int .i64 (dn : Int))).drew := below_drewN (Below.refl _ _) 1
    have hfd5d := hfd5.below hbd5
    have HFD5 := Lib.hid hfd5d
    have hlow5 := hfd5d.lows HX.out.st HKO.out hB
    have hk5 := hfd5d.kok HKO.out
    have HK5 := Lib.hid (⟨hk5, hdn⟩ : _ ∧ _)
    have hB5 : B ≤ (w4.setCell ⟨d, 6, none⟩ (.int .i64 (dn : Int))).drew.heap.size := Nat.le_trans hB hfd5d.mods.size
    have hT5 := HT.out.below hlow5 hgc
    have hjc2 : (∃ G1 E1 S1 nx1 txs1, Jr N (setAll vs H') G1 E1 S1 txs1 nx1 ∧ G1 ≤ G ∧ (txs1 = txs ∨ txs1 = [])) ∨ Blank N (setAll vs H') := by
      rcases hjc with ⟨S', h⟩ | h | h
      · exact .inl ⟨G, E, S', nx, txs, h, Nat.le_refl _, .inl rfl⟩
      · exact .inr h
      · rw [h]
        exact .inl ⟨1, 1, 1, 2, [], Jr.fresh n8 nm, HX.out.jr.g1, .inr rfl⟩
    rcases hjc2 with ⟨G1, E1, S1, nx1, txs1, hj1, hG1, htx1⟩ | hbl
    · have HOP := Lib.hid (open_jr hfd5d.st hv1 hB5 (by omega) rfl hj1 hT5 hgc)
      have HJ1 := Lib.hid (⟨hj1, htx1⟩ : _ ∧ _)
      clear hbd5 hoF4 hf4 hdb4 hop4 hf4k hfd4 hdF4 hdn hfd5 hdb5 hms5 hop5 hv1 hv2 hjc hfd5d hlow5 hk5 hB5 hT5 hj1 htx1 z0 kk HBT HON
      go_wp2_with fail
      refine Ord.nx_end ?_
      go_wp2_with fail
      refine Ord.region_ord [] [0, 1, 2, 3, 4, 5, 6, 7, 8, 9, 10, 11, 12, 13, 14, 15] (by kernel_rfl) (by kernel_rfl) (by kernel_rfl) (by kernel_rfl) (Ord.ord_all [_, _, _, _, _, _, _, _, _, _, _, _, _, _, _, _] rfl (by kernel_rfl) ?_)
      go_wp2_with fail
      refine HOP.out.mono ?_
      rintro e w6 ⟨F6, pm6, hf6, ⟨g6, v6, rfl, hd6, hon6, hg6, hgF6, hw6, ht6⟩ | ⟨_, hno, _⟩⟩
      rotate_left
      · exact absurd rfl hno
      obtain ⟨A6, c6, rfl, hr6⟩ := ht6.rows
      have hfd6 := HFD5.out.trans (hf6.desk (K := K))
      have hdb6 := Blk.mods HDB5.out hf6.mods HDB5.out.lt (HK5.out.1 d HX.out.dK).2.1
      have hop6 := Blk.mods HOP5.out hf6.mods HOP5.out.lt HOF4.out
      have hl6 : TxsAt w6 (Calm B F6 K) txs1 (.slice A6 txs1.length c6) := ht6.mono fun k hlt hk => ⟨Nat.le_trans (Nat.le_trans hB HFD5.out.mods.size) hk.1, hk.2.1, fun h => by have h1 := (HK5.out.1 k h).2.2; have h2 : (w4.setCell ⟨d, 6, none⟩ (.int .i64 (dn : Int))).drew.heap.size ≤ k := hk.1; omega⟩
      obtain ⟨A', c', e8, hrn⟩ := (hfd6.calm HX.out.now).rows
      injection e8 with e81 e8a e8b
      clear e8a e8b
      rw [← e81] at hrn
      clear e81
      have hj3 := HJ1.out.1.few.1
      have hj4 := HJ1.out.1.nxN
      have HSM := Lib.hid (same_any w6 A6 AN txs1.length c6 txs.length cN txs1 txs hr6 hrn rfl rfl (by omega) fun tx h => (HJ1.out.1.sum_le.2 tx h).1)
      have m3 : w6.cell? ⟨d, 3, none⟩ = some (.slice AN txs.length cN) := (hdb6.cell 3).trans rfl
      have HFD6 := Lib.hid hfd6
      have HDB6 := Lib.hid hdb6
      have HOP6 := Lib.hid hop6
      have HL6 := Lib.hid hl6
      obtain ⟨H6, hH6⟩ : ∃ H6, (setAll vs H').set ((G1 + 1) % 2) (hdrB (G1 + 1) E1) = H6 := ⟨_, rfl⟩
      have HD6 : Hid (Disk pm6 dev N H6 [] ∧ pm6.off = false ∧ Jr N H6 (G1 + 1) E1 (G1 + 1) txs1 nx1) := Lib.hid (by rw [← hH6]; exact ⟨hd6, hon6, HJ1.out.1.header (by omega)⟩)
      clear hf6 hd6 hon6 hg6 hgF6 hw6 ht6 hr6 hfd6 hdb6 hop6 hl6 hrn hH6 HOP k0 k1 k6 z6
      go_wp2_with fail
      refine Ord.nx_end ?_
      go_wp2_with fail
      refine HSM.out.mono ?_
      rintro e w7 ⟨rfl, hb7⟩
      have hdb7 := HDB6.out.below_ hb7
      have hop7 := HOP6.out.below_ hb7
      have kk : w7.cell? ⟨w.heap.size, 3, none⟩ = some (.slice KA kn kc) := by rw [hop7.cell]; rfl
      have HFD7 := Lib.hid (HFD6.out.below hb7)
      have HDB7 := Lib.hid hdb7
      have HL7 := Lib.hid (HL6.out.below hb7)
      have hdn := HK5.out.2
      clear hdb7 hop7 hb7 m3 HSM
      by_cases heq : txs1 = txs
      · have hde : decide (txs1 = txs) = true := decide_eq_true heq
        rw [hde]
        clear heq hde
        go_wp2_with fail
        have hb8 := below_al' (w := w7) (.cells #[.slice A6 txs1.length c6] 38)
        have hfz := HFD7.out.below hb8
        have hlow8 := hfz.lows HX.out.st HKO.out hB
        have hk8 : KOk B (w7.alloc (.cells #[.slice A6 txs1.length c6] 38)) F6 K := hfz.kok HKO.out
        have hmay : MayAt (w7.alloc (.cells #[.slice A6 txs1.length c6] 38)) (Calm B F6 K) [txs1] (.slice (some ⟨w7.heap.size, 0, none⟩) 1 1) := MayAt.new w7 (mays := [txs1]) (J := Calm B F6 K) [.slice A6 txs1.length c6] rfl (by simp) (fun k t hk => by
          rcases k with _ | k
          · simp at hk
            subst hk
            exact ⟨_, rfl, HL7.out⟩
          · simp at hk) ⟨Nat.le_trans hB HFD7.out.mods.size, fun h => by have := (HFD7.out.st.lt _ h).2; omega, fun h => by have := ((HFD7.out.kok HKO.out) _ h).2.2; omega⟩
        have hxz : Dsk0 B (w7.alloc (.cells #[.slice A6 txs1.length c6] 38)) F6 K a pm6 (n + 2 * N + 5) dev N d txs1 dn H6 (G1 + 1) E1 (G1 + 1) nx1 :=
          ⟨hfz.st, HD6.out.1, HD6.out.2.1, HD6.out.2.2, ⟨_, _, _, HDB7.out.below_ hb8⟩, HX.out.dK, (hk8 d HX.out.dK).2.1, HX.out.dB⟩
        have HOPZ := Lib.hid (opened_any hxz (Nat.le_trans hB hfz.mods.size) (by omega) (by omega) (by omega) (fun k h => ⟨(hk8 k h).1, (hk8 k h).2.1⟩) KA kn kc keep (keep_at HK.out.1 hlow8 HK.out.2.2) HK.out.2.1 HK.out.2.2 hkm hmay (by simp) (by simp) (HT.out.below hlow8 hgc) hgc)
        have HFZ := Lib.hid hfz
        have HKZ := Lib.hid hk8
        clear hb8 hfz hlow8 hk8 hmay hxz
        go_wp2_with fail
        refine HOPZ.out.mono ?_
        rintro e wz h
        obtain ⟨F', K', pm', g', v', txs', dims', H', G', E', nx', rfl, hf, y, hk', hG', hd'⟩ := DoneP.of HFZ.out.e (OpenedP.done h HKZ.out)
        have HY := Lib.hid (⟨hf, y, hk'⟩ : _ ∧ _ ∧ _)
        have hG1 := HX.out.jr.g1
        clear h hf y hk' HOPZ
        go_wp2_with fail
        go_ret
        have y := HY.out.2.1
        exact ⟨F', K', pm', g', v', txs', dims', H', G', E', nx', rfl, HY.out.1.more (by omega), ⟨st_more y.st (by omega), y.disk, y.on, y.jr, y.wal, y.desk, y.now, y.gK, y.dK, y.gF, y.dF, y.gB, y.dB⟩, HY.out.2.2, by omega, by omega⟩
      · have hde : decide (txs1 = txs) = false := decide_eq_false heq
        obtain rfl : txs1 = [] := HJ1.out.2.resolve_left heq
        rw [hde]
        clear heq hde
        go_wp2_with fail
        have hb8 := below_al' (w := w7) (.cells #[.slice A6 0 c6] 38)
        have hfz := HFD7.out.below hb8
        have hlow8 := hfz.lows HX.out.st HKO.out hB
        have hk8 : KOk B (w7.alloc (.cells #[.slice A6 0 c6] 38)) F6 K := hfz.kok HKO.out
        have hmay : MayAt (w7.alloc (.cells #[.slice A6 0 c6] 38)) (Calm B F6 K) [[]] (.slice (some ⟨w7.heap.size, 0, none⟩) 1 1) := MayAt.new w7 (mays := [[]]) (J := Calm B F6 K) [.slice A6 0 c6] rfl (by simp) (fun k t hk => by
          rcases k with _ | k
          · simp at hk
            subst hk
            exact ⟨_, rfl, HL7.out⟩
          · simp at hk) ⟨Nat.le_trans hB HFD7.out.mods.size, fun h => by have := (HFD7.out.st.lt _ h).2; omega, fun h => by have := ((HFD7.out.kok HKO.out) _ h).2.2; omega⟩
        have hxz : Dsk0 B (w7.alloc (.cells #[.slice A6 0 c6] 38)) F6 K a pm6 (n + 2 * N + 5) dev N d [] dn H6 (G1 + 1) E1 (G1 + 1) nx1 :=
          ⟨hfz.st, HD6.out.1, HD6.out.2.1, HD6.out.2.2, ⟨_, _, _, HDB7.out.below_ hb8⟩, HX.out.dK, (hk8 d HX.out.dK).2.1, HX.out.dB⟩
        have HOPZ := Lib.hid (opened_any hxz (Nat.le_trans hB hfz.mods.size) (by omega) (by omega) (by omega) (fun k h => ⟨(hk8 k h).1, (hk8 k h).2.1⟩) KA kn kc keep (keep_at HK.out.1 hlow8 HK.out.2.2) HK.out.2.1 HK.out.2.2 hkm hmay (by simp) (by simp) (HT.out.below hlow8 hgc) hgc)
        have HFZ := Lib.hid hfz
        have HKZ := Lib.hid hk8
        clear hb8 hfz hlow8 hk8 hmay hxz
        go_wp2_with fail
        refine HOPZ.out.mono ?_
        rintro e wz h
        obtain ⟨F', K', pm', g', v', txs', dims', H', G', E', nx', rfl, hf, y, hk', hG', hd'⟩ := DoneP.of HFZ.out.e (OpenedP.done h HKZ.out)
        have HY := Lib.hid (⟨hf, y, hk'⟩ : _ ∧ _ ∧ _)
        have hG1 := HX.out.jr.g1
        clear h hf y hk' HOPZ
        go_wp2_with fail
        go_ret
        have y := HY.out.2.1
        exact ⟨F', K', pm', g', v', txs', dims', H', G', E', nx', rfl, HY.out.1.more (by omega), ⟨st_more y.st (by omega), y.disk, y.on, y.jr, y.wal, y.desk, y.now, y.gK, y.dK, y.gF, y.dF, y.gB, y.dB⟩, HY.out.2.2, by omega, by omega⟩
    · have HOP := Lib.hid (open_on hfd5d.st hv1 hB5 (by omega) rfl n8 hT5 hgc)
      have HBL := Lib.hid hbl
      clear hbd5 hoF4 hf4 hdb4 hop4 hf4k hfd4 hdF4 hdn hfd5 hdb5 hms5 hop5 hv1 hv2 hjc hfd5d hlow5 hk5 hB5 hT5 hbl z0 kk HBT HON
      go_wp2_with fail
      refine Ord.nx_end ?_
      go_wp2_with fail
      refine Ord.region_ord [] [0, 1, 2, 3, 4, 5, 6, 7, 8, 9, 10, 11, 12, 13, 14, 15] (by kernel_rfl) (by kernel_rfl) (by kernel_rfl) (by kernel_rfl) (Ord.ord_all [_, _, _, _, _, _, _, _, _, _, _, _, _, _, _, _] rfl (by kernel_rfl) ?_)
      go_wp2_with fail
      refine HOP.out.mono ?_
      rintro e w6 ⟨F6, pm6, G6, E6, hf6, hG6, hE6, h6⟩
      rw [virt_nil, HBL.out.newest] at hG6
      rcases h6 with ⟨_, rfl, hd6, hon6⟩ | ⟨hng, _⟩
      rotate_left
      · exact absurd (.inl hG6) hng
      have hfd6 := HFD5.out.trans (hf6.desk (K := K))
      have hdb6 := Blk.mods HDB5.out hf6.mods HDB5.out.lt (HK5.out.1 d HX.out.dK).2.1
      have hop6 := Blk.mods HOP5.out hf6.mods HOP5.out.lt HOF4.out
      have hoF6 : ¬ F6 w.heap.size := fun hF => (hf6.grow _ hF).elim HOF4.out fun h1 => by have := HOP5.out.lt; omega
      have hbd6 : Below w6.heap.size w6 w6.drew := below_drewN (Below.refl _ _) 1
      have hfd6d := hfd6.below hbd6
      have m0 : w6.cell? ⟨d, 0, none⟩ = some (.pointer (some ⟨a, 0, none⟩)) := (hdb6.cell 0).trans rfl
      have m1 : w6.cell? ⟨d, 1, none⟩ = some (.int .i64 (dev : Int)) := (hdb6.cell 1).trans rfl
      have HFM2 := Lib.hid (format_on hfd6d.st hd6 (Nat.le_trans hB hfd6d.mods.size) (by omega) hon6 n8 (HT.out.below (hfd6d.lows HX.out.st HKO.out hB) hgc) hgc)
      have HFD6 := Lib.hid hfd6d
      have HDB6 := Lib.hid (hdb6.below_ hbd6)
      have HOP6 := Lib.hid (⟨hop6.below_ hbd6, hoF6, hf6.fuse rfl⟩ : _ ∧ _ ∧ _)
      clear hf6 hG6 hE6 hd6 hon6 hfd6 hdb6 hop6 hoF6 hbd6 hfd6d HOP k0 k1 k6 z6
      go_wp2_with fail
      refine Ord.nx_end ?_
      go_wp2_with fail
      refine Ord.region_ord [] [0, 1, 2, 3, 4, 5, 6, 7, 8, 9] (by kernel_rfl) (by kernel_rfl) (by kernel_rfl) (by kernel_rfl) (Ord.ord_all [_, _, _, _, _, _, _, _, _, _] rfl (by kernel_rfl) ?_)
      go_wp2_with fail
      refine HFM2.out.mono ?_
      rintro e w7 ⟨F7, pm7, hf7, ⟨rfl, hd7, hon7⟩ | ⟨_, hno, _⟩⟩
      rotate_left
      · exact absurd HOP6.out.2.2 hno
      have hfd7 := HFD6.out.trans (hf7.desk (K := K))
      have hdb7 := Blk.mods HDB6.out hf7.mods HDB6.out.lt ((HFD6.out.kok HKO.out) d HX.out.dK).2.1
      have hop7 := Blk.mods HOP6.out.1 hf7.mods HOP6.out.1.lt HOP6.out.2.1
      have kk : w7.cell? ⟨w.heap.size, 3, none⟩ = some (.slice KA kn kc) := by rw [hop7.cell]; rfl
      have hb8 := below2 w7 (.cells #[] 42) (.cells #[.slice (some ⟨w7.heap.size, 0, none⟩) 0 0] 38)
      have hk7 := hfd7.kok HKO.out
      have hmay := may_nil (w := w7) (Nat.le_trans hB hfd7.mods.size) (fun k h => (hfd7.st.lt k h).2) (fun k h => (hk7 k h).2.2)
      have hfz := hfd7.below hb8
      have hlow8 := hfz.lows HX.out.st HKO.out hB
      have hk8 : KOk B ((w7.alloc (.cells #[] 42)).alloc (.cells #[.slice (some ⟨w7.heap.size, 0, none⟩) 0 0] 38)) F7 K := hfz.kok HKO.out
      have hxz : Dsk0 B ((w7.alloc (.cells #[] 42)).alloc (.cells #[.slice (some ⟨w7.heap.size, 0, none⟩) 0 0] 38)) F7 K a pm7 (n + 2 * N + 5 + 2 * N + 2) dev N d [] dn (freshH N) 1 1 1 2 :=
        ⟨hfz.st, hd7, hon7, Jr.fresh n8 nm, ⟨_, _, _, hdb7.below_ hb8⟩, HX.out.dK, (hk8 d HX.out.dK).2.1, HX.out.dB⟩
      have hdn := HK5.out.2
      have HOPZ := Lib.hid (opened_any hxz (Nat.le_trans hB hfz.mods.size) (by omega) (by omega) (by omega) (fun k h => ⟨(hk8 k h).1, (hk8 k h).2.1⟩) KA kn kc keep (keep_at HK.out.1 hlow8 HK.out.2.2) HK.out.2.1 HK.out.2.2 hkm hmay (by simp) (by simp) (HT.out.below hlow8 hgc) hgc)
      have HFZ := Lib.hid hfz
      have HKZ := Lib.hid hk8
      clear hb8 hfz hlow8 hk8 hmay hxz hdn hfd7 hdb7 hop7 hk7 hf7 hd7 hon7 HFM2 m0 m1
      go_wp2_with fail
      refine Ord.nx_end ?_
      go_wp2_with fail
      refine HOPZ.out.mono ?_
      rintro e wz h
      obtain ⟨F', K', pm', g', v', txs', dims', H', G', E', nx', rfl, hf, y, hk', hG', hd'⟩ := DoneP.of HFZ.out.e (OpenedP.done h HKZ.out)
      have HY := Lib.hid (⟨hf, y, hk'⟩ : _ ∧ _ ∧ _)
      have hG1 := HX.out.jr.g1
      have hdn := HK5.out.2
      clear h hf y hk' HOPZ
      go_wp2_with fail
      go_ret
      have y := HY.out.2.1
      exact ⟨F', K', pm', g', v', txs', dims', H', G', E', nx', rfl, HY.out.1.more (by omega), ⟨st_more y.st (by omega), y.disk, y.on, y.jr, y.wal, y.desk, y.now, y.gK, y.dK, y.gF, y.dF, y.gB, y.dB⟩, HY.out.2.2, by omega, by omega⟩
end Go.Proofs.YtlnfeehokpkgiaaDoor.Wal
