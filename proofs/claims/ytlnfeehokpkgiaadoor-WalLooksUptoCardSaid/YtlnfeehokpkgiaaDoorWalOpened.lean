/- The desk's 'opened'. -/
import Derived.Test.YtlnfeehokpkgiaaDoorFold24
namespace Go.Proofs.YtlnfeehokpkgiaaDoor.Wal
open Go Go.RowKit Mem Pl Disk Crc _root_.Go.Proofs.YtlnfeehokpkgiaaDoor.Frame
theorem Blk.desk_set {w : World} {d a dev : Nat} {gv v : Value} {cost N dims : Nat} (h : Blk w d 58 #[.pointer (some ⟨a, 0, none⟩), .int .i64 (dev : Int), gv, v, .int .i64 (cost : Int), .int .i64 (N : Int), .int .i64 (dims : Int)]) (u : Value) :
    Blk (w.setCell ⟨d, 2, none⟩ u) d 58 #[.pointer (some ⟨a, 0, none⟩), .int .i64 (dev : Int), u, v, .int .i64 (cost : Int), .int .i64 (N : Int), .int .i64 (dims : Int)] := by
  have := Blk.set_ h 2 u
  simpa using this
/-- A desk of which the journal is not open. -/
structure Dsk0 (B : Nat) (w : World) (F K : Nat → Prop) (a : Nat) (pm : PM) (n dev N d : Nat) (txs : List Tx) (dims : Nat) (H : List (List UInt8)) (G E S nx : Nat) : Prop where
  st : St B w F a pm n
  disk : Disk pm dev N H []
  on : pm.off = false
  jr : Jr N H G E S txs nx
  desk : ∃ (gv v : Value) (cost : Nat), Blk w d 58 #[.pointer (some ⟨a, 0, none⟩), .int .i64 (dev : Int), gv, v, .int .i64 (cost : Int), .int .i64 (N : Int), .int .i64 (dims : Int)]
  dK : K d
  dF : ¬ F d
  dB : B ≤ d
/-- What 'opened' leaves. -/
def OpenedP (B : Nat) (w : World) (F K : Nat → Prop) (a : Nat) (pm : PM) (n dev N d : Nat) (txs : List Tx) (dims G E nx : Nat) (e : Ending) (w' : World) : Prop :=
  ∃ (F' K' : Nat → Prop) (pm' : PM) (g : Nat) (v : Value) (H' : List (List UInt8)) (G' dims' : Nat), e = .returned (.bool true) ∧ FrD B w F K a pm (n + 8) dev F' K' pm' w' ∧
    Dsk B w' F' K' a pm' (n + 8) dev N d g v txs (sumM txs) dims' H' G' E nx ∧ G' ≤ G + 2 ∧ dims' ≤ dims + 1 ∧ (∀ k, K' k → K k ∨ k = g)
def OpnL (B : Nat) (w : World) (F K : Nat → Prop) (a : Nat) (pm : PM) (n dev N d : Nat) (txs : List Tx) (dims G E nx : Nat) (iv : Value) (wr : World) : Prop :=
  ∃ (i : Nat) (F1 : Nat → Prop) (pm1 : PM) (H1 : List (List UInt8)) (G1 S1 dims1 : Nat), i ≤ 1 ∧ iv = .int .i64 (i : Int) ∧ (i = 1 → pm1.fuse = none) ∧ FrD B w F K a pm (n + 3 * i) dev F1 K pm1 wr ∧ Dsk0 B wr F1 K a pm1 (n + 3 * i) dev N d txs dims1 H1 G1 E S1 nx ∧ G1 ≤ G + i ∧ dims1 ≤ dims + i
theorem Dsk0.cells {B : Nat} {w : World} {F K : Nat → Prop} {a : Nat} {pm : PM} {n dev N d : Nat} {txs : List Tx} {dims : Nat} {H : List (List UInt8)} {G E S nx : Nat} (x : Dsk0 B w F K a pm n dev N d txs dims H G E S nx) :
    w.cell? ⟨d, 0, none⟩ = some (.pointer (some ⟨a, 0, none⟩)) ∧ w.cell? ⟨d, 1, none⟩ = some (.int .i64 (dev : Int)) ∧ w.cell? ⟨d, 6, none⟩ = some (.int .i64 (dims : Int)) := by
  obtain ⟨gv, v, cost, h⟩ := x.desk
  refine ⟨?_, ?_, ?_⟩ <;> (rw [h.cell]; rfl)
theorem Dsk0.desk_mods {B : Nat} {w w' : World} {F K : Nat → Prop} {a : Nat} {pm : PM} {n dev N d : Nat} {txs : List Tx} {dims : Nat} {H : List (List UInt8)} {G E S nx : Nat} (x : Dsk0 B w F K a pm n dev N d txs dims H G E S nx) (hm : Mods w.heap.size F w w') :
    ∃ (gv v : Value) (cost : Nat), Blk w' d 58 #[.pointer (some ⟨a, 0, none⟩), .int .i64 (dev : Int), gv, v, .int .i64 (cost : Int), .int .i64 (N : Int), .int .i64 (dims : Int)] := by
  obtain ⟨gv, v, cost, h⟩ := x.desk
  exact ⟨gv, v, cost, Blk.mods h hm h.lt x.dF⟩
set_option maxRecDepth 100000 in
set_option maxHeartbeats 8000000 in
theorem opened_any {B : Nat} {w : World} {F K : Nat → Prop} {a : Nat} {pm : PM} {n dev N d : Nat} {txs : List Tx} {dims : Nat} {H : List (List UInt8)} {G E S nx : Nat} (x : Dsk0 B w F K a pm n dev N d txs dims H G E S nx) (hB : B ≤ w.heap.size) (hn : n ≤ 700000000) (hG : G + 3 < 4000000000) (hdm : dims ≤ 1000000000000)
    (hKB : ∀ k, K k → B ≤ k ∧ ¬ F k) (AK : Option Addr) (nk ck : Nat) (keep : List Int) (hk : IAt w AK keep) (hkl : keep.length = nk) (hkB : keep ≠ [] → ∀ ad, AK = some ad → ad.block < B) (hnk : nk ≤ 9223372036854775807)
    {mays : List (List Tx)} {mv : Value} (hmay : MayAt w (Calm B F K) mays mv) (hml : mays.length ≤ 1000) (hmem : txs ∈ mays) (ht : Tab w) (hgc : 0 < B) :
    Calls Tryd.prog 24 #[.pointer (some ⟨d, 0, none⟩), .slice AK nk ck, mv] w (OpenedP B w F K a pm n dev N d txs dims G E nx) := by
  obtain ⟨AM, cM, rfl, _⟩ := hmay.at_
  have HX := Lib.hid x
  have HMAY := Lib.hid hmay
  have HK := Lib.hid (⟨hk, hkl⟩ : _ ∧ _)
  have HT := Lib.hid ht
  have HM := Lib.hid hmem
  have HKB := Lib.hid hKB
  clear x hmay hk hkl ht hmem hKB
  go_enter Tryd.func24, Tryd.ntmps24
  go_wp2_with fail
  go_loopw [7] (fun iv wr => OpnL B w F K a pm n dev N d txs dims G E nx iv wr) (fun iv _ => 2 - (intOf iv).toNat)
  case atStart => exact ⟨0, F, pm, H, G, S, dims, by omega, rfl, fun h => by omega, FrD.refl HX.out.st, HX.out, by omega, by omega⟩
  case round =>
    obtain ⟨i, F1, pm1, H1, G1, S1, dims1, hi, rfl, hfz, hfr, hx1, hG1, hd1⟩ := hrel
    have HFZ := Lib.hid hfz
    have HFR := Lib.hid hfr
    have HX1 := Lib.hid hx1
    have hsz : w.heap.size ≤ wr.heap.size := hfr.mods.size
    have hlow := hfr.low hB (fun k hk => (HX.out.st.lt k hk).1) (fun k hk => (HKB.out k hk).1)
    have HLOW := Lib.hid hlow
    have hgw : 0 < wr.heap.size := Nat.lt_of_lt_of_le (Nat.lt_of_lt_of_le hgc hB) hsz
    have bdr := below_drewN (Below.refl wr.heap.size wr) 1
    have HBDR := Lib.hid bdr
    have HOP := Lib.hid (open_jr (w := wr.drew) (hx1.st.below bdr) hx1.disk (Nat.le_trans hB hsz) (by omega) hx1.on hx1.jr (Tab.below (HT.out.below hlow hgc) bdr hgw) hgc)
    obtain ⟨c0, c1, c6⟩ := hx1.cells
    have hiI : (i : Int) < 3 := by omega
    clear hfz hfr hx1 hlow bdr
    go_wp2_with fail
    refine Ord.region_ord [] [0, 1, 2, 3, 4, 5, 6, 7, 8, 9, 10, 11, 12, 13, 14, 15] (by kernel_rfl) (by kernel_rfl) (by kernel_rfl) (by kernel_rfl) (Ord.ord_all [_, _, _, _, _, _, _, _, _, _, _, _, _, _, _, _] rfl (by kernel_rfl) ?_)
    go_wp2_with fail
    refine HOP.out.mono ?_
    rintro e w2 ⟨F2, pm2, hf2, ⟨g, v, rfl, hd2, hon2, hg1, hg2, hw2, htx2⟩ | ⟨rfl, hfu2, hoff2, hds2⟩⟩
    · obtain ⟨A2, c2, rfl, _⟩ := htx2.rows
      have hf2r := hf2.of_below HBDR.out
      have hdl : d < wr.heap.size := by
        obtain ⟨_, _, _, hb⟩ := HX1.out.desk
        exact hb.lt
      have hdF2 : ¬ F2 d := fun hF => (hf2r.grow d hF).elim HX1.out.dF fun h1 => by omega
      have hg1' : wr.heap.size ≤ g := hg1
      obtain ⟨gv, vv, cost, hb2⟩ := HX1.out.desk_mods hf2r.mods
      have HFD : Hid (FrD B w F K a pm (n + 3 * i + 2) dev F2 (fun k => K k ∨ k = g) pm2 w2) := Lib.hid ((HFR.out.trans (Frm.desk (K := K) hf2r)).own fun k hk => hk.elim .inl fun e => .inr (by rw [e]; omega))
      have HF3 := Lib.hid (HFD.out.cell (d := d) (.inl HX.out.dK) hdF2 2 (.pointer (some ⟨g, 0, none⟩)))
      have hm23 : Mods w2.heap.size (fun j => j = d) w2 (w2.setCell ⟨d, 2, none⟩ (.pointer (some ⟨g, 0, none⟩))) := (Mods.refl w2.heap.size (fun j => j = d) w2).setCell (p := ⟨d, 2, none⟩) (.inl rfl) _
      have HB3 := Lib.hid (Blk.desk_set hb2 (.pointer (some ⟨g, 0, none⟩)))
      have HW3 : Hid (WalB (w2.setCell ⟨d, 2, none⟩ (.pointer (some ⟨g, 0, none⟩))) g a dev N ⟨G1 + 1, E, nx, txs.length + 1⟩) := Lib.hid (Blk.mods hw2 hm23 (Blk.lt hw2) (by omega))
      have HMY3 := Lib.hid (HF3.out.calmMay HMAY.out)
      have HTX3 : Hid (TxsAt (w2.setCell ⟨d, 2, none⟩ (.pointer (some ⟨g, 0, none⟩))) (fun k => wr.heap.size ≤ k ∧ ¬ F2 k ∧ k ≠ g) txs (.slice A2 txs.length c2)) := Lib.hid (htx2.mods hm23 fun k hk hj => ⟨hk, fun e => by have h : wr.heap.size ≤ k := hj.1; omega⟩)
      have HD2 := Lib.hid (⟨hd2, hon2, hg2, hg1'⟩ : _ ∧ _ ∧ _ ∧ _)
      have z2 := hb2.frozen 2
      have k2 : w2.cell? ⟨d, 2, none⟩ = some gv := by rw [hb2.cell]; rfl
      clear hf2 hf2r hd2 hon2 hg1 hg2 hw2 htx2 hm23 hb2 HOP c0 c1 c6
      go_wp2_with fail
      refine Ord.nx_end ?_
      go_wp2_with fail
      generalize hw3 : w2.setCell ⟨d, 2, none⟩ (.pointer (some ⟨g, 0, none⟩)) = w3 at *
      have hJs := Lib.hid (HX1.out.jr.sum_le)
      have HR3 : Hid (TxRows w3 A2 txs) := Lib.hid (by
        obtain ⟨A', c', e, hr⟩ := HTX3.out.rows
        injection e with e1 _ _
        rw [e1]
        exact hr)
      clear z2 k2 hw3
      go_loopw [11] (fun kv wi => ∃ k : Nat, k ≤ mays.length ∧ kv = .int .i64 (k : Int) ∧ (∀ j, j < k → mays[j]? ≠ some txs) ∧ Below w3.heap.size w3 wi) (fun kv _ => mays.length - (intOf kv).toNat)
      case atStart => exact ⟨0, by omega, rfl, fun j hj => by omega, Below.refl _ _⟩
      case round =>
        obtain ⟨k, hk, rfl, hnone, hbi⟩ := hrel
        have HNO := Lib.hid hnone
        have HBI := Lib.hid hbi
        by_cases hkl : k < mays.length
        · have hkI : (k : Int) < (mays.length : Int) := by omega
          have hkN : decide (k < mays.length) = true := decide_eq_true hkl
          obtain ⟨mk, hmk⟩ : ∃ b, mays[k]? = some b := ⟨_, List.getElem?_eq_getElem hkl⟩
          obtain ⟨AM', cM', hAe, hat⟩ := (HMY3.out.below hbi).at_
          injection hAe with hA1 hA2 hA3
          clear hA2 hA3
          obtain ⟨ad, u, hAd, hcu, htu⟩ := hat k mk hmk
          rw [hAd] at hA1
          obtain ⟨Au, cu, rfl, hru⟩ := htu.rows
          have HSM := Lib.hid (same_any _ A2 Au txs.length c2 mk.length cu txs mk (HR3.out.below hbi) hru rfl rfl (by have := HX1.out.jr.few.1; have := HX1.out.jr.nxN; have := HX1.out.jr.nm; omega) fun tx h => (hJs.out.2 tx h).1)
          have HTU := Lib.hid htu
          have HMK := Lib.hid hmk
          subst hA1
          clear hnone hbi hat hmk htu hru hAd
          go_wp2_with fail
          refine HSM.out.mono ?_
          rintro e w5 ⟨rfl, hb5⟩
          have HB5 := Lib.hid (HBI.out.trans (hb5.mono HBI.out.size))
          have HB5W := Lib.hid hb5
          clear hb5 HSM
          by_cases heq : txs = mk
          · have hde : decide (txs = mk) = true := decide_eq_true heq
            rw [hde]
            have hb5w := HB5.out
            have hc5 : w5.cell? (ad.add k) = some (.slice Au mk.length cu) := (HB5W.out.cell (cell_lt hcu)).trans hcu
            have hbd := Blk.below_ HB3.out hb5w
            have hbs := Blk.set_ hbd 3 (.slice Au mk.length cu)
            have z3 := hbd.frozen 3
            have z4 := hbd.frozen 4
            have k3 : w5.cell? ⟨d, 3, none⟩ = some vv := by rw [hbd.cell]; rfl
            have k4 : w5.cell? ⟨d, 4, none⟩ = some (.int .i64 (cost : Int)) := by rw [hbd.cell]; rfl
            have HDB := Lib.hid hbs
            have hm35 : Mods w5.heap.size (fun j => j = d) w5 (w5.setCell ⟨d, 3, none⟩ (.slice Au mk.length cu)) := (Mods.refl w5.heap.size (fun j => j = d) w5).setCell (p := ⟨d, 3, none⟩) (.inl rfl) _
            have HTU5 : Hid (TxsAt (w5.setCell ⟨d, 3, none⟩ (.slice Au mk.length cu)) (Calm B F2 fun k => K k ∨ k = g) mk (.slice Au mk.length cu)) := Lib.hid ((HTU.out.below HB5W.out).mods hm35 fun k hk hj => ⟨hk, fun e => hj.2.2 (.inl (e ▸ HX.out.dK))⟩)
            have HSU := Lib.hid (sums_any (w5.setCell ⟨d, 3, none⟩ (.slice Au mk.length cu)) Au mk.length cu mk (by
              obtain ⟨A', c', e, hr⟩ := HTU5.out.rows
              injection e with e1 _ _
              rw [← e1] at hr
              exact hr) rfl (by rw [← heq]; have := HX1.out.jr.few.1; have := HX1.out.jr.nxN; have := HX1.out.jr.nm; omega) (by rw [← heq]; exact hJs.out.2) (by rw [← heq]; have := hJs.out.1; omega))
            have hF5 := (HF3.out.below HB5.out).cell (d := d) (.inl HX.out.dK) hdF2 3 (.slice Au mk.length cu)
            have HF6 := Lib.hid (hF5.cell (d := d) (.inl HX.out.dK) hdF2 4 (.int .i64 (sumM mk : Int)))
            have HB6 := Lib.hid (Blk.set_ hbs 4 (.int .i64 (sumM mk : Int)))
            have hm36 : Mods (w5.setCell ⟨d, 3, none⟩ (.slice Au mk.length cu)).heap.size (fun j => j = d) (w5.setCell ⟨d, 3, none⟩ (.slice Au mk.length cu)) ((w5.setCell ⟨d, 3, none⟩ (.slice Au mk.length cu)).setCell ⟨d, 4, none⟩ (.int .i64 (sumM mk : Int))) := (Mods.refl _ (fun j => j = d) _).setCell (p := ⟨d, 4, none⟩) (.inl rfl) _
            have HNW := Lib.hid (HTU5.out.mods hm36 fun k hk hj => ⟨hk, fun e => hj.2.2 (.inl (e ▸ HX.out.dK))⟩)
            have hgd : ¬ g = d := by have := HD2.out.2.2.2; omega
            have HW6 := Lib.hid (Blk.mods (Blk.mods (HW3.out.below hb5w) hm35 (Blk.lt (HW3.out.below hb5w)) hgd) hm36 (Blk.lt (Blk.mods (HW3.out.below hb5w) hm35 (Blk.lt (HW3.out.below hb5w)) hgd)) hgd)
            have HEQ := Lib.hid heq
            clear heq hm35 hm36 hF5 hbs hbd
            go_wp2_with fail
            refine HSU.out.mono ?_
            rintro e _ ⟨rfl, rfl⟩
            go_wp2_with fail
            go_ret
            refine ⟨F2, fun k => K k ∨ k = g, pm2, g, .slice Au mk.length cu, _, G1 + 1, dims1, rfl, HF6.out.more (by omega), ⟨st_more HF6.out.st (by omega), HD2.out.1, HD2.out.2.1, HX1.out.jr.header (by omega), HW6.out, ?_, ?_, .inr rfl, .inl HX.out.dK, HD2.out.2.2.1, hdF2, by have := HD2.out.2.2.2; omega, HX.out.dB⟩, by omega, by omega, fun j hj => hj⟩
            · have h1 := HB6.out
              show Blk _ _ _ _
              rw [HEQ.out]
              simpa [deskCells] using h1
            · rw [HEQ.out]
              exact HNW.out
          · have hde : decide (txs = mk) = false := decide_eq_false heq
            rw [hde]
            go_wp2_with fail
            go_roundw
            case rel => exact ⟨k + 1, by omega, by simp, fun j hj => by
              rcases Nat.lt_or_ge j k with h | h
              · exact HNO.out j h
              · obtain rfl : j = k := by omega
                rw [HMK.out]
                exact fun e => heq (Option.some.inj e).symm, HB5.out⟩
            case measure => simp [intOf]; omega
        · exfalso
          obtain ⟨j, hj, e⟩ := List.mem_iff_getElem.1 HM.out
          exact HNO.out j (by omega) (by rw [List.getElem?_eq_getElem hj, e])
    · have hi0 : i = 0 := by
        have h : ¬ i = 1 := fun h => hfu2 (HFZ.out h)
        omega
      subst hi0
      have hf2r := hf2.of_below HBDR.out
      have HF2 := Lib.hid hf2r
      have hon2 := Pl.on_any hf2.st.at_
      rw [hoff2] at hon2
      have HON2 := Lib.hid hon2
      obtain ⟨gv, vv, cost, hb2⟩ := HX1.out.desk_mods hf2r.mods
      have k0 : w2.cell? ⟨d, 0, none⟩ = some (.pointer (some ⟨a, 0, none⟩)) := by rw [hb2.cell]; rfl
      have HB2 := Lib.hid hb2
      have HFD := Lib.hid (HFR.out.trans (Frm.desk (K := K) hf2r))
      have hsz2 : B ≤ w2.heap.size := Nat.le_trans hB HFD.out.mods.size
      have hlow2 := HFD.out.low hB (fun k hk => (HX.out.st.lt k hk).1) (fun k hk => (HKB.out k hk).1)
      have hk2 : IAt w2 AK keep := by
        rcases HK.out.1 with h | ⟨ad, hA, hc⟩
        · exact .inl h
        · exact .inr ⟨ad, hA, fun k z hz => (hlow2.cell (by rw [addr_block]; exact hkB (fun e => by rw [e] at hz; cases hz) ad hA)).trans (hc k z hz)⟩
      have HBT := Lib.hid (St.booted (K := fun _ => False) (dev := dev) hf2.st hsz2 (by omega) AK nk ck keep hk2 HK.out.2 (fun hne ad hA hF => by have h1 := (hf2.st.lt _ hF).1; have h2 := hkB hne ad hA; omega) hnk)
      have HDS := Lib.hid hds2
      clear hf2 hf2r hds2 hoff2 hfu2 hon2 hb2 hk2 hlow2 HOP c0 c1 c6
      go_wp2_with fail
      refine Ord.nx_end ?_
      go_wp2_with fail
      refine HON2.out.mono ?_
      rintro e _ ⟨rfl, rfl⟩
      go_wp2_with fail
      refine HBT.out.mono ?_
      rintro e w4 ⟨rfl, hf4⟩
      have hdF2 : ¬ F2 d := fun hF => (HF2.out.grow d hF).elim HX1.out.dF fun h1 => by
        obtain ⟨_, _, _, hb⟩ := HX1.out.desk
        have := hb.lt
        omega
      have hb4 := Blk.mods HB2.out hf4.mods HB2.out.lt fun h => h.elim hdF2 id
      have hf4k : FrD B w2 F2 K a pm2 (n + 3 * 0 + 2 + 1) dev (Grow F2 w2 w4) K (pm2.boot keep) w4 := ⟨hf4.grow, fun _ h => .inl h, hf4.mods.mono (Nat.le_refl _) fun k _ h => h.imp id False.elim, hf4.st, hf4.els, hf4.fuse⟩
      have hdF4 : ¬ Grow F2 w2 w4 d := fun hF => (grow_new d hF).elim hdF2 fun h1 => by have := HB2.out.lt; omega
      obtain ⟨dn, hdn⟩ : ∃ k, dims1 + 1 = k := ⟨_, rfl⟩
      have hwd : IntKind.i64.wrap ((dims1 : Int) + 1) = (dn : Int) := by rw [show (dims1 : Int) + 1 = (dn : Int) by omega]; exact IntWalk.i64_in _ (by omega)
      have HF5 := Lib.hid ((HFD.out.trans hf4k).cell HX.out.dK hdF4 6 (.int .i64 (dn : Int)))
      have b5 := Blk.set_ hb4 6 (.int .i64 (dn : Int))
      have HB5 : Hid (Blk (w4.setCell ⟨d, 6, none⟩ (.int .i64 (dn : Int))) d 58 #[.pointer (some ⟨a, 0, none⟩), .int .i64 (dev : Int), gv, vv, .int .i64 (cost : Int), .int .i64 (N : Int), .int .i64 (dn : Int)]) := Lib.hid (by simpa using b5)
      have HD4 : Hid (∃ H' G' S', G' ≤ G1 + 1 ∧ Disk (pm2.boot keep) dev N H' [] ∧ Jr N H' G' E S' txs nx) := Lib.hid (by
        rcases HDS.out with h | h
        · obtain ⟨vs, h1, h2⟩ := h.boot keep
          rw [List.sublist_nil.1 h2] at h1
          exact ⟨_, _, _, by omega, h1, HX1.out.jr⟩
        · obtain ⟨vs, h1, h2⟩ := h.boot keep
          obtain ⟨G', S', h3, h4⟩ := HX1.out.jr.opened (by omega) h2
          exact ⟨_, _, _, h3, h1, h4⟩)
      have k6 : w4.cell? ⟨d, 6, none⟩ = some (.int .i64 (dims1 : Int)) := by rw [hb4.cell]; rfl
      have z6 := hb4.frozen 6
      clear hf4 hf4k hb4 b5 HBT HON2 k0
      go_wp2_with fail
      go_roundw
      case rel =>
        obtain ⟨H', G', S', h1, h2, h3⟩ := HD4.out
        exact ⟨1, _, _, H', G', S', dn, by omega, rfl, fun _ => rfl, HF5.out, ⟨HF5.out.st, h2, rfl, h3, ⟨gv, vv, cost, HB5.out⟩, HX.out.dK, hdF4, HX.out.dB⟩, by omega, by omega⟩
      case measure => simp [intOf]
end Go.Proofs.YtlnfeehokpkgiaaDoor.Wal
