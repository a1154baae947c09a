/- The law 'WalApart'. -/
import Derived.Test.YtlnfeehokpkgiaaDoorFold32
namespace Go.Proofs.YtlnfeehokpkgiaaDoor.Wal
open Go Go.RowKit Mem Pl Disk Crc _root_.Go.Proofs.YtlnfeehokpkgiaaDoor.Frame
theorem Dsk.frm {B : Nat} {w w' : World} {F F' K : Nat → Prop} {a : Nat} {pm pm' : PM} {n n' dev dev2 N d g : Nat} {v : Value} {txs : List Tx} {cost dims : Nat} {H : List (List UInt8)} {G E nx : Nat} (x : Dsk B w F K a pm n dev N d g v txs cost dims H G E nx) (hk : KOk B w F K) (hf : Frm B w F a pm n' dev2 F' pm' w') (hdev : dev ≠ dev2) (hon : pm'.off = false) : Dsk B w' F' K a pm' n' dev N d g v txs cost dims H G E nx :=
  ⟨hf.st, hf.els _ _ _ _ hdev x.disk, hon, x.jr, Blk.mods x.wal hf.mods (Blk.lt x.wal) x.gF, Blk.mods x.desk hf.mods (Blk.lt x.desk) x.dF, hf.desk.calm x.now, x.gK, x.dK, (hf.desk.kok hk g x.gK).2.1, (hf.desk.kok hk d x.dK).2.1, x.gB, x.dB⟩
/-- Operations whose guards say no, one after the other. -/
def skipOk (ops : Array Oper) : List Oper → Act → Bool
  | [], _ => true
  | o :: l, a => !Region.wanted o (yielded ops a.tmps) && skipOk ops l (a.put o.dst undef)
theorem ord_skips2 {P : Program} {ops : Array Oper} {Q : Exit → Act → World → Prop} {L M : List Nat} {r : List Nat} {w : World} : ∀ (l : List Nat) (lops : List Oper) (a : Act), l.map (ops[·]?) = lops.map some → (l.all fun i => M.contains i) = true → skipOk ops lops a = true →
    Ord.wpOrd P ops (Ord.NP Q) L M r (lops.foldl (fun a o => a.put o.dst undef) a) w → Ord.wpOrd P ops (Ord.NP Q) L M (l ++ r) a w
  | [], [], _, _, _, _, h => h
  | [], _ :: _, _, hl, _, _, _ => by cases hl
  | _ :: _, [], _, hl, _, _, _ => by cases hl
  | i :: l, o :: lops, a, hl, hM, hw, h => by
    simp only [List.map_cons, List.cons.injEq] at hl
    simp only [List.all_cons, Bool.and_eq_true] at hM
    simp only [skipOk, Bool.and_eq_true] at hw
    refine ord_skip (r := l ++ r) hl.1 hM.1 (by simpa using hw.1) ?_
    exact ord_skips2 l lops _ hl.2 hM.2 hw.2 h
section
variable {W w w' : World} {a N dev1 d1 dev2 d2 n n' dm Gm dm' Gm' : Nat}
/-- A call on a copy of the law's own. -/
theorem TwoD.doNew (x : TwoD W w a N dev1 d1 dev2 d2 n dm Gm) (hn : n ≤ 510000000) (hG : Gm + 6 < 4000000000) (hd : dm ≤ 800000000000) (o : OpW) (ho : OpWOk W o) (hkW : o.keep ≠ [] → ∀ ad, o.KA = some ad → ad.block < W.heap.size) :
    Calls Tryd.prog 22 #[.pointer (some ⟨d1, 0, none⟩), .agg #[.int .i64 o.kind, .int .i64 o.N, .slice o.TA o.tn o.tc, .slice o.KA o.kn o.kc]] (w.alloc (.cells #[.int .i64 o.kind, .int .i64 o.N, .slice o.TA o.tn o.tc, .slice o.KA o.kn o.kc] 54)) fun e w' => e = .returned (.bool true) ∧ TwoD W w' a N dev1 d1 dev2 d2 (n + 4 * N + 50) (dm + 2) (Gm + 3) ∧
      Blk w' w.heap.size 54 #[.int .i64 o.kind, .int .i64 o.N, .slice o.TA o.tn o.tc, .slice o.KA o.kn o.kc] := by
  have hb := below_al' (w := w) (.cells #[.int .i64 o.kind, .int .i64 o.N, .slice o.TA o.tn o.tc, .slice o.KA o.kn o.kc] 54)
  have hnew := Blk.new w 54 #[.int .i64 o.kind, .int .i64 o.N, .slice o.TA o.tn o.tc, .slice o.KA o.kn o.kc]
  obtain ⟨F, pm, g1, g2, ⟨v1, txs1, dims1, H1, G1, E1, nx1, y0, b1, b2⟩, ⟨v2, txs2, dims2, H2, G2, E2, nx2, y2, b3, b4⟩, e1, e2, e3, hl, ht, hgc⟩ := x
  have y1 := y0.below hb
  have hl' := hl.trans (hb.mono hl.size)
  have ht' := ht.below hb (Nat.lt_of_lt_of_le hgc hl.size)
  refine (do_any y1 hl'.size hn (by omega) (by omega) (kok2 y1) o ho.k ho.i (fun w' hm => ?_) ho.tl ho.tm ho.tot (ho.keep.below hl') ho.kl hkW ho.km ht' hgc).mono fun e w' hd => ?_
  · refine ho.rows.below (hl'.trans ((hm.mono hl'.size fun _ _ hf => hf).below fun k hkl hf => ?_))
    rcases hf with hf | hf
    · have := (y1.st.lt k hf).1; omega
    · have := (kok2 y1 k hf).1; omega
  · have hs := TwoD.step ⟨v1, txs1, dims1, H1, G1, E1, nx1, y1, b1, b2⟩ ⟨v2, txs2, dims2, H2, G2, E2, nx2, y2.below hb, b3, b4⟩ e1 e2 e3 hl' ht' hgc (hd.more (Nat.le_refl _) (show _ ≤ dm + 2 by omega) (show _ ≤ Gm + 3 by omega)) (by omega) (by omega) (by omega)
    obtain ⟨F', K', pm', g', v, txs, dims, H, G, E, nx, he, hf, _⟩ := hd
    refine ⟨hs.1, hs.2, Blk.mods hnew hf.mods hnew.lt fun h => ?_⟩
    rcases h with h | h
    · have := (y0.st.lt _ h).2; omega
    · have := (kok2 y0 _ h).2.2; omega
end
def ApaO (W : World) (a d1 d2 M : Nat) (iv : Value) (wr : World) : Prop := ∃ i : Nat, iv = .int .i64 (i : Int) ∧ i ≤ M ∧ TwoD W wr a 40 0 d1 1 d2 (200 + 440 * i) (6 * i) (2 + 10 * i)
def ApaI (W : World) (a d1 d2 n0 dm0 G0 : Nat) (kv : Value) (wr : World) : Prop := ∃ k : Nat, kv = .int .i64 (k : Int) ∧ k ≤ 2 ∧ TwoD W wr a 40 0 d1 1 d2 (n0 + 218 * k) (dm0 + 3 * k) (G0 + 5 * k)
set_option maxRecDepth 100000 in
set_option maxHeartbeats 16000000 in
theorem lawWApart (A0 A1 : Option Addr) (m0 m1 c0 c1 : Nat) (os0 os1 : List OpW) (W : World) (ht : Tab W) (hgc : 0 < W.heap.size) (ho0 : OpsWAt W A0 os0) (hom0 : os0.length = m0) (hm0 : m0 ≤ 1048576) (hkW0 : ∀ o ∈ os0, o.keep ≠ [] → ∀ ad, o.KA = some ad → ad.block < W.heap.size)
    (ho1 : OpsWAt W A1 os1) (hom1 : os1.length = m1) (hm1 : m1 ≤ 1048576) (hkW1 : ∀ o ∈ os1, o.keep ≠ [] → ∀ ad, o.KA = some ad → ad.block < W.heap.size) :
    Calls Tryd.prog 7 #[.slice A0 m0 c0, .slice A1 m1 c1] W fun e W' => e = .returned (.bool true) ∧ Below W.heap.size W W' := by
  have HSH := Lib.hid (shown_any W ht hgc)
  have HT := Lib.hid ht
  have HO0 := Lib.hid (⟨ho0, hom0, hkW0⟩ : _ ∧ _ ∧ _)
  have HO1 := Lib.hid (⟨ho1, hom1, hkW1⟩ : _ ∧ _ ∧ _)
  clear ht ho0 hom0 hkW0 ho1 hom1 hkW1
  go_enter Tryd.func7, Tryd.ntmps7
  go_wp2_with fail
  refine HSH.out.mono ?_
  rintro e w0 ⟨rfl, hb0⟩
  have HB0 := Lib.hid hb0
  have HMD := Lib.hid (made_any w0 2 40 (by omega) (by omega) (by omega) (by omega))
  clear hb0 HSH
  go_wp2_with fail
  refine HMD.out.mono ?_
  rintro e w1 ⟨a, rfl, hp, hb1⟩
  have hb01 := HB0.out.trans (hb1.mono HB0.out.size)
  have hst1 : St W.heap.size w1 _ a (walPM 2 40) 0 := St.new hp HB0.out.size (walPM_new (by omega) (by omega) (by omega) (by omega))
  have HBG := Lib.hid (begun_any hst1 (walPM_disk 2 40 0 (by omega)) hb01.size (by omega) rfl rfl (by omega) (HT.out.below hb01 hgc) hgc)
  have HB1 := Lib.hid (⟨hb01, hst1⟩ : _ ∧ _)
  clear hp hb1 hb01 hst1 HMD
  go_wp2_with fail
  refine HBG.out.mono ?_
  rintro e w2 ⟨F2, pm2, d1, g1, H2, rfl, hf2, _, _, x1⟩
  have hlow2 := (hf2.desk (K := fun _ => False)).lows HB1.out.2 (fun _ h => h.elim) HB1.out.1.size
  have hl2 := HB1.out.1.trans hlow2
  have HBH := Lib.hid (begun_any x1.st (hf2.els 1 40 _ [] (by omega) (walPM_disk 2 40 1 (by omega))) hl2.size (by omega) x1.on (hf2.fuse rfl) (by omega) (HT.out.below hl2 hgc) hgc)
  have HX1 := Lib.hid x1
  have HL2 := Lib.hid hl2
  clear hf2 x1 hlow2 hl2 HBG
  go_wp2_with fail
  refine HBH.out.mono ?_
  rintro e w3 ⟨F3, pm3, d2, g2, H3, rfl, hf3, hd3, hg3, x2⟩
  have hlow3 := (hf3.desk (K := fun _ => False)).lows HX1.out.st (fun _ h => h.elim) HL2.out.size
  have hl3 := HL2.out.trans hlow3
  have x1' := Dsk.frm (K := Two2 d1 g1) HX1.out (kok2 HX1.out) hf3 (by omega) x2.on
  have HD : Hid (TwoD W w3 a 40 0 d1 1 d2 200 0 2) := Lib.hid (TwoD.more (n := 0 + 2 * 40 + 4 + 2 * 40 + 4) (dm := 0) (Gm := 2) ⟨F3, pm3, g1, g2, ⟨_, _, _, _, _, _, _, x1', by omega, by omega⟩, ⟨_, _, _, _, _, _, _, x2, by omega, by omega⟩, by have := Blk.lt HX1.out.desk; omega, by have := Blk.lt HX1.out.wal; omega, by omega, hl3, HT.out.below hl3 hgc, hgc⟩ (by omega) (by omega) (by omega))
  clear hf3 hd3 hg3 x2 x1' hlow3 hl3 HBH
  go_wp2_with fail
  obtain ⟨M, hM⟩ : ∃ M, max m0 m1 = M := ⟨_, rfl⟩
  have hM2 : m0 ≤ M ∧ m1 ≤ M ∧ M ≤ 1048576 := by omega
  go_loopw [9] (fun iv wr => ApaO W a d1 d2 M iv wr) (fun iv _ => M - (intOf iv).toNat)
  case atStart => exact ⟨0, rfl, by omega, HD.out⟩
  case round =>
    obtain ⟨i, rfl, hi, hs⟩ := hrel
    have HS := Lib.hid hs
    clear hs
    by_cases hlt : i < M
    · by_cases h0 : i < m0
      · have h0I : (i : Int) < (m0 : Int) := by omega
        go_wp2_with fail
        go_loopw [10] (fun kv wr => ApaI W a d1 d2 (200 + 440 * i) (6 * i) (2 + 10 * i) kv wr) (fun kv _ => 2 - (intOf kv).toNat)
        case atStart => exact ⟨0, rfl, by omega, HS.out⟩
        case round =>
          obtain ⟨k, rfl, hk, hs⟩ := hrel
          have HS2 := Lib.hid hs
          clear hs
          by_cases hk0 : k = 0
          · subst hk0
            have hlm := h0
            have hlmI : ¬ (m0 : Int) ≤ (i : Int) := by omega
            have hlmN : decide (i < m0) = true := decide_eq_true hlm
            have hlmG : decide (m0 ≤ i) = false := decide_eq_false (by omega)
            obtain ⟨o, hoi⟩ : ∃ o, os0[i]? = some o := ⟨_, List.getElem?_eq_getElem (by rw [HO0.out.2.1]; exact hlm)⟩
            obtain ⟨ad, hA, hcells, hok⟩ := HO0.out.1 i o hoi
            obtain ⟨x0, x1, x2, x3⟩ := hcells.below HS2.out.low
            have hkw := HO0.out.2.2 o (List.mem_of_getElem? hoi)
            have HWH := Lib.hid (fun w : World => which_any w o.kind 12 (by omega) (by omega) hok.k)
            have HDO := Lib.hid (TwoD.doNew (HS2.out) (by omega) (by omega) (by omega) o hok hkw)
            have HB1 := Lib.hid (HS2.out.below (below_al' (w := wr) (.cells #[.int .i64 o.kind, .int .i64 o.N, .slice o.TA o.tn o.tc, .slice o.KA o.kn o.kc] 54)))
            have HOK := Lib.hid (⟨hok, hkw⟩ : _ ∧ _)
            subst hA
            clear hcells hok hoi hkw
            generalize whichM o.kind 12 = q at *
            go_wp2_with fail
            refine (HWH.out _).mono ?_
            rintro e _ ⟨rfl, rfl⟩
            clear x0 x1 x2 x3
            by_cases h9 : q = 9
            · subst h9
              go_wp2_with fail
              go_roundw
              case rel => exact ⟨0 + 1, by simp, by omega, HB1.out.more (by omega) (by omega) (by omega)⟩
              case measure => simp [intOf]
            have e9 : ((q : Int) == 9) = false := by simp; omega
            go_wp2_with fail
            refine HDO.out.mono ?_
            rintro e w5 ⟨rfl, hs5, hbo5⟩
            have q0 : w5.cell? ⟨wr.heap.size, 0, none⟩ = some (.int .i64 o.kind) := (hbo5.cell 0).trans rfl
            have q3 : w5.cell? ⟨wr.heap.size, 3, none⟩ = some (.slice o.KA o.kn o.kc) := (hbo5.cell 3).trans rfl
            have HS5 := Lib.hid hs5
            clear hs5 hbo5 HDO HB1
            by_cases h10 : q = 10
            · subst h10
              obtain ⟨A6, k6, c6, hc6⟩ := HS5.out.swap.cell
              have hx5 := HS5.out.swap.below (below_drewN (Below.refl w5.heap.size w5) 1 : Below w5.heap.size w5 w5.drew)
              have HOPZ : Hid (Calls Tryd.prog 24 #[.pointer (some ⟨d2, 0, none⟩), .slice o.KA o.kn o.kc, .slice (some ⟨w5.heap.size, 0, none⟩) 1 1] (w5.alloc (.cells #[.slice A6 k6 c6] 38)).drew fun e w' => e = .returned (.bool true) ∧ TwoD W w' a 40 1 d2 0 d1 _ _ _) := Lib.hid
                (hx5.opened (by omega) (by omega) (by omega) (show w5.drew.cell? ⟨d2, 3, none⟩ = _ from hc6) o.KA o.kn o.kc o.keep HOK.out.1.keep HOK.out.1.kl HOK.out.2 HOK.out.1.km)
              clear hx5
              go_wp2_with fail
              refine Ord.region_ord [12] [0, 1, 2, 3, 4, 5, 6, 7, 8, 9, 10, 11, 12, 13, 14, 15] (by kernel_rfl) (by kernel_rfl) (by kernel_rfl) (by kernel_rfl) (Ord.ord_run [0, 1] [_, _] rfl (by kernel_rfl) ?_)
              go_wp2_with fail
              refine Ord.nx_ord (Ord.ord_run [2, 3, 4, 5, 6, 7, 8, 9, 10, 11] [_, _, _, _, _, _, _, _, _, _] rfl (by kernel_rfl) ?_)
              go_wp2_with fail
              refine (HWH.out _).mono ?_
              rintro e _ ⟨rfl, rfl⟩
              go_wp2_with fail
              refine Ord.nx_ord (Ord.ord_one rfl ?_)
              go_wp2_with fail
              refine Ord.nx_and (below_al' (w := w5.drew) (.cells #[.slice A6 k6 c6] 38)) (Ord.ord_all [_, _, _] rfl (by kernel_rfl) ?_)
              go_wp2_with fail
              refine HOPZ.out.mono ?_
              rintro e w7 ⟨rfl, hs7⟩
              have HS7 := Lib.hid (hs7.swap)
              clear hs7 HOPZ q0 q3 hc6
              go_wp2_with fail
              refine Ord.nx_end ?_
              go_wp2_with fail
              go_roundw
              case rel => exact ⟨0 + 1, by simp, by omega, HS7.out.more (by omega) (by omega) (by omega)⟩
              case measure => simp [intOf]
            · have e10 : ((q : Int) == 10) = false := by simp; omega
              go_wp2_with fail
              refine Ord.region_ordM [] [5, 6, 7, 8, 9, 10, 11, 12, 13, 14] [0, 1, 2, 3, 4, 5, 6, 7, 8, 9, 10, 11, 12, 13, 14, 15] (by kernel_rfl) (by kernel_rfl) (by kernel_rfl) (by kernel_rfl) (Ord.ord_run [0, 1, 2, 3, 4] [_, _, _, _, _] rfl (by kernel_rfl) ?_)
              go_wp2_with fail
              refine (HWH.out _).mono ?_
              rintro e _ ⟨rfl, rfl⟩
              go_wp2_with fail
              refine Ord.nx_ord (ord_skips2 [5, 6, 7, 8, 9, 10, 11, 12, 13, 14] [_, _, _, _, _, _, _, _, _, _] _ rfl (by kernel_rfl) (by kernel_rfl) ?_)
              simp only [List.foldl, Act.put, List.setIfInBounds_toArray]
              refine Ord.ord_all [_] rfl (by kernel_rfl) ?_
              clear q0 q3
              go_wp2_with fail
              refine Ord.nx_end ?_
              go_wp2_with fail
              go_roundw
              case rel => exact ⟨0 + 1, by simp, by omega, (TwoD.below (HS5.out) (below_drewN (Below.refl w5.heap.size w5) 1 : Below w5.heap.size w5 w5.drew)).more (by omega) (by omega) (by omega)⟩
              case measure => simp [intOf]
          · by_cases hk1 : k = 1
            · subst hk1
              by_cases hlm : i < m1
              · have hlmI : ¬ (m1 : Int) ≤ (i : Int) := by omega
                have hlmN : decide (i < m1) = true := decide_eq_true hlm
                have hlmG : decide (m1 ≤ i) = false := decide_eq_false (by omega)
                obtain ⟨o, hoi⟩ : ∃ o, os1[i]? = some o := ⟨_, List.getElem?_eq_getElem (by rw [HO1.out.2.1]; exact hlm)⟩
                obtain ⟨ad, hA, hcells, hok⟩ := HO1.out.1 i o hoi
                obtain ⟨x0, x1, x2, x3⟩ := hcells.below HS2.out.low
                have hkw := HO1.out.2.2 o (List.mem_of_getElem? hoi)
                have HWH := Lib.hid (fun w : World => which_any w o.kind 12 (by omega) (by omega) hok.k)
                have HDO := Lib.hid (TwoD.doNew (HS2.out.swap) (by omega) (by omega) (by omega) o hok hkw)
                have HB1 := Lib.hid (HS2.out.below (below_al' (w := wr) (.cells #[.int .i64 o.kind, .int .i64 o.N, .slice o.TA o.tn o.tc, .slice o.KA o.kn o.kc] 54)))
                have HOK := Lib.hid (⟨hok, hkw⟩ : _ ∧ _)
                subst hA
                clear hcells hok hoi hkw
                generalize whichM o.kind 12 = q at *
                go_wp2_with fail
                refine (HWH.out _).mono ?_
                rintro e _ ⟨rfl, rfl⟩
                clear x0 x1 x2 x3
                by_cases h9 : q = 9
                · subst h9
                  go_wp2_with fail
                  go_roundw
                  case rel => exact ⟨1 + 1, by simp, by omega, HB1.out.more (by omega) (by omega) (by omega)⟩
                  case measure => simp [intOf]
                have e9 : ((q : Int) == 9) = false := by simp; omega
                go_wp2_with fail
                refine HDO.out.mono ?_
                rintro e w5 ⟨rfl, hs5, hbo5⟩
                have q0 : w5.cell? ⟨wr.heap.size, 0, none⟩ = some (.int .i64 o.kind) := (hbo5.cell 0).trans rfl
                have q3 : w5.cell? ⟨wr.heap.size, 3, none⟩ = some (.slice o.KA o.kn o.kc) := (hbo5.cell 3).trans rfl
                have HS5 := Lib.hid hs5
                clear hs5 hbo5 HDO HB1
                by_cases h10 : q = 10
                · subst h10
                  obtain ⟨A6, k6, c6, hc6⟩ := HS5.out.swap.cell
                  have hx5 := HS5.out.swap.below (below_drewN (Below.refl w5.heap.size w5) 1 : Below w5.heap.size w5 w5.drew)
                  have HOPZ : Hid (Calls Tryd.prog 24 #[.pointer (some ⟨d1, 0, none⟩), .slice o.KA o.kn o.kc, .slice (some ⟨w5.heap.size, 0, none⟩) 1 1] (w5.alloc (.cells #[.slice A6 k6 c6] 38)).drew fun e w' => e = .returned (.bool true) ∧ TwoD W w' a 40 0 d1 1 d2 _ _ _) := Lib.hid
                    (hx5.opened (by omega) (by omega) (by omega) (show w5.drew.cell? ⟨d1, 3, none⟩ = _ from hc6) o.KA o.kn o.kc o.keep HOK.out.1.keep HOK.out.1.kl HOK.out.2 HOK.out.1.km)
                  clear hx5
                  go_wp2_with fail
                  refine Ord.region_ord [12] [0, 1, 2, 3, 4, 5, 6, 7, 8, 9, 10, 11, 12, 13, 14, 15] (by kernel_rfl) (by kernel_rfl) (by kernel_rfl) (by kernel_rfl) (Ord.ord_run [0, 1] [_, _] rfl (by kernel_rfl) ?_)
                  go_wp2_with fail
                  refine Ord.nx_ord (Ord.ord_run [2, 3, 4, 5, 6, 7, 8, 9, 10, 11] [_, _, _, _, _, _, _, _, _, _] rfl (by kernel_rfl) ?_)
                  go_wp2_with fail
                  refine (HWH.out _).mono ?_
                  rintro e _ ⟨rfl, rfl⟩
                  go_wp2_with fail
                  refine Ord.nx_ord (Ord.ord_one rfl ?_)
                  go_wp2_with fail
                  refine Ord.nx_and (below_al' (w := w5.drew) (.cells #[.slice A6 k6 c6] 38)) (Ord.ord_all [_, _, _] rfl (by kernel_rfl) ?_)
                  go_wp2_with fail
                  refine HOPZ.out.mono ?_
                  rintro e w7 ⟨rfl, hs7⟩
                  have HS7 := Lib.hid (hs7)
                  clear hs7 HOPZ q0 q3 hc6
                  go_wp2_with fail
                  refine Ord.nx_end ?_
                  go_wp2_with fail
                  go_roundw
                  case rel => exact ⟨1 + 1, by simp, by omega, HS7.out.more (by omega) (by omega) (by omega)⟩
                  case measure => simp [intOf]
                · have e10 : ((q : Int) == 10) = false := by simp; omega
                  go_wp2_with fail
                  refine Ord.region_ordM [] [5, 6, 7, 8, 9, 10, 11, 12, 13, 14] [0, 1, 2, 3, 4, 5, 6, 7, 8, 9, 10, 11, 12, 13, 14, 15] (by kernel_rfl) (by kernel_rfl) (by kernel_rfl) (by kernel_rfl) (Ord.ord_run [0, 1, 2, 3, 4] [_, _, _, _, _] rfl (by kernel_rfl) ?_)
                  go_wp2_with fail
                  refine (HWH.out _).mono ?_
                  rintro e _ ⟨rfl, rfl⟩
                  go_wp2_with fail
                  refine Ord.nx_ord (ord_skips2 [5, 6, 7, 8, 9, 10, 11, 12, 13, 14] [_, _, _, _, _, _, _, _, _, _] _ rfl (by kernel_rfl) (by kernel_rfl) ?_)
                  simp only [List.foldl, Act.put, List.setIfInBounds_toArray]
                  refine Ord.ord_all [_] rfl (by kernel_rfl) ?_
                  clear q0 q3
                  go_wp2_with fail
                  refine Ord.nx_end ?_
                  go_wp2_with fail
                  go_roundw
                  case rel => exact ⟨1 + 1, by simp, by omega, (TwoD.below (HS5.out.swap) (below_drewN (Below.refl w5.heap.size w5) 1 : Below w5.heap.size w5 w5.drew)).more (by omega) (by omega) (by omega)⟩
                  case measure => simp [intOf]
              · have hlmI : (m1 : Int) ≤ (i : Int) := by omega
                have hlmG : decide (m1 ≤ i) = true := decide_eq_true (by omega)
                go_wp2_with fail
                go_roundw
                case rel => exact ⟨1 + 1, by simp, by omega, HS2.out.more (by omega) (by omega) (by omega)⟩
                case measure => simp [intOf]
            · obtain rfl : k = 2 := by omega
              go_wp2_with fail
              go_roundw
              case rel => exact ⟨i + 1, by simp, by omega, HS2.out.more (by omega) (by omega) (by omega)⟩
              case measure => simp [intOf]; omega
      · have h0I : ¬ (i : Int) < (m0 : Int) := by omega
        have h1I : (i : Int) < (m1 : Int) := by omega
        go_wp2_with fail
        go_loopw [10] (fun kv wr => ApaI W a d1 d2 (200 + 440 * i) (6 * i) (2 + 10 * i) kv wr) (fun kv _ => 2 - (intOf kv).toNat)
        case atStart => exact ⟨0, rfl, by omega, HS.out⟩
        case round =>
          obtain ⟨k, rfl, hk, hs⟩ := hrel
          have HS2 := Lib.hid hs
          clear hs
          by_cases hk0 : k = 0
          · subst hk0
            have hlmI : (m0 : Int) ≤ (i : Int) := by omega
            have hlmG : decide (m0 ≤ i) = true := decide_eq_true (by omega)
            go_wp2_with fail
            go_roundw
            case rel => exact ⟨0 + 1, by simp, by omega, HS2.out.more (by omega) (by omega) (by omega)⟩
            case measure => simp [intOf]
          · by_cases hk1 : k = 1
            · subst hk1
              by_cases hlm : i < m1
              · have hlmI : ¬ (m1 : Int) ≤ (i : Int) := by omega
                have hlmN : decide (i < m1) = true := decide_eq_true hlm
                have hlmG : decide (m1 ≤ i) = false := decide_eq_false (by omega)
                obtain ⟨o, hoi⟩ : ∃ o, os1[i]? = some o := ⟨_, List.getElem?_eq_getElem (by rw [HO1.out.2.1]; exact hlm)⟩
                obtain ⟨ad, hA, hcells, hok⟩ := HO1.out.1 i o hoi
                obtain ⟨x0, x1, x2, x3⟩ := hcells.below HS2.out.low
                have hkw := HO1.out.2.2 o (List.mem_of_getElem? hoi)
                have HWH := Lib.hid (fun w : World => which_any w o.kind 12 (by omega) (by omega) hok.k)
                have HDO := Lib.hid (TwoD.doNew (HS2.out.swap) (by omega) (by omega) (by omega) o hok hkw)
                have HB1 := Lib.hid (HS2.out.below (below_al' (w := wr) (.cells #[.int .i64 o.kind, .int .i64 o.N, .slice o.TA o.tn o.tc, .slice o.KA o.kn o.kc] 54)))
                have HOK := Lib.hid (⟨hok, hkw⟩ : _ ∧ _)
                subst hA
                clear hcells hok hoi hkw
                generalize whichM o.kind 12 = q at *
                go_wp2_with fail
                refine (HWH.out _).mono ?_
                rintro e _ ⟨rfl, rfl⟩
                clear x0 x1 x2 x3
                by_cases h9 : q = 9
                · subst h9
                  go_wp2_with fail
                  go_roundw
                  case rel => exact ⟨1 + 1, by simp, by omega, HB1.out.more (by omega) (by omega) (by omega)⟩
                  case measure => simp [intOf]
                have e9 : ((q : Int) == 9) = false := by simp; omega
                go_wp2_with fail
                refine HDO.out.mono ?_
                rintro e w5 ⟨rfl, hs5, hbo5⟩
                have q0 : w5.cell? ⟨wr.heap.size, 0, none⟩ = some (.int .i64 o.kind) := (hbo5.cell 0).trans rfl
                have q3 : w5.cell? ⟨wr.heap.size, 3, none⟩ = some (.slice o.KA o.kn o.kc) := (hbo5.cell 3).trans rfl
                have HS5 := Lib.hid hs5
                clear hs5 hbo5 HDO HB1
                by_cases h10 : q = 10
                · subst h10
                  obtain ⟨A6, k6, c6, hc6⟩ := HS5.out.swap.cell
                  have hx5 := HS5.out.swap.below (below_drewN (Below.refl w5.heap.size w5) 1 : Below w5.heap.size w5 w5.drew)
                  have HOPZ : Hid (Calls Tryd.prog 24 #[.pointer (some ⟨d1, 0, none⟩), .slice o.KA o.kn o.kc, .slice (some ⟨w5.heap.size, 0, none⟩) 1 1] (w5.alloc (.cells #[.slice A6 k6 c6] 38)).drew fun e w' => e = .returned (.bool true) ∧ TwoD W w' a 40 0 d1 1 d2 _ _ _) := Lib.hid
                    (hx5.opened (by omega) (by omega) (by omega) (show w5.drew.cell? ⟨d1, 3, none⟩ = _ from hc6) o.KA o.kn o.kc o.keep HOK.out.1.keep HOK.out.1.kl HOK.out.2 HOK.out.1.km)
                  clear hx5
                  go_wp2_with fail
                  refine Ord.region_ord [12] [0, 1, 2, 3, 4, 5, 6, 7, 8, 9, 10, 11, 12, 13, 14, 15] (by kernel_rfl) (by kernel_rfl) (by kernel_rfl) (by kernel_rfl) (Ord.ord_run [0, 1] [_, _] rfl (by kernel_rfl) ?_)
                  go_wp2_with fail
                  refine Ord.nx_ord (Ord.ord_run [2, 3, 4, 5, 6, 7, 8, 9, 10, 11] [_, _, _, _, _, _, _, _, _, _] rfl (by kernel_rfl) ?_)
                  go_wp2_with fail
                  refine (HWH.out _).mono ?_
                  rintro e _ ⟨rfl, rfl⟩
                  go_wp2_with fail
                  refine Ord.nx_ord (Ord.ord_one rfl ?_)
                  go_wp2_with fail
                  refine Ord.nx_and (below_al' (w := w5.drew) (.cells #[.slice A6 k6 c6] 38)) (Ord.ord_all [_, _, _] rfl (by kernel_rfl) ?_)
                  go_wp2_with fail
                  refine HOPZ.out.mono ?_
                  rintro e w7 ⟨rfl, hs7⟩
                  have HS7 := Lib.hid (hs7)
                  clear hs7 HOPZ q0 q3 hc6
                  go_wp2_with fail
                  refine Ord.nx_end ?_
                  go_wp2_with fail
                  go_roundw
                  case rel => exact ⟨1 + 1, by simp, by omega, HS7.out.more (by omega) (by omega) (by omega)⟩
                  case measure => simp [intOf]
                · have e10 : ((q : Int) == 10) = false := by simp; omega
                  go_wp2_with fail
                  refine Ord.region_ordM [] [5, 6, 7, 8, 9, 10, 11, 12, 13, 14] [0, 1, 2, 3, 4, 5, 6, 7, 8, 9, 10, 11, 12, 13, 14, 15] (by kernel_rfl) (by kernel_rfl) (by kernel_rfl) (by kernel_rfl) (Ord.ord_run [0, 1, 2, 3, 4] [_, _, _, _, _] rfl (by kernel_rfl) ?_)
                  go_wp2_with fail
                  refine (HWH.out _).mono ?_
                  rintro e _ ⟨rfl, rfl⟩
                  go_wp2_with fail
                  refine Ord.nx_ord (ord_skips2 [5, 6, 7, 8, 9, 10, 11, 12, 13, 14] [_, _, _, _, _, _, _, _, _, _] _ rfl (by kernel_rfl) (by kernel_rfl) ?_)
                  simp only [List.foldl, Act.put, List.setIfInBounds_toArray]
                  refine Ord.ord_all [_] rfl (by kernel_rfl) ?_
                  clear q0 q3
                  go_wp2_with fail
                  refine Ord.nx_end ?_
                  go_wp2_with fail
                  go_roundw
                  case rel => exact ⟨1 + 1, by simp, by omega, (TwoD.below (HS5.out.swap) (below_drewN (Below.refl w5.heap.size w5) 1 : Below w5.heap.size w5 w5.drew)).more (by omega) (by omega) (by omega)⟩
                  case measure => simp [intOf]
              · have hlmI : (m1 : Int) ≤ (i : Int) := by omega
                have hlmG : decide (m1 ≤ i) = true := decide_eq_true (by omega)
                go_wp2_with fail
                go_roundw
                case rel => exact ⟨1 + 1, by simp, by omega, HS2.out.more (by omega) (by omega) (by omega)⟩
                case measure => simp [intOf]
            · obtain rfl : k = 2 := by omega
              go_wp2_with fail
              go_roundw
              case rel => exact ⟨i + 1, by simp, by omega, HS2.out.more (by omega) (by omega) (by omega)⟩
              case measure => simp [intOf]; omega
    · have h0I : ¬ (i : Int) < (m0 : Int) := by omega
      have h1I : ¬ (i : Int) < (m1 : Int) := by omega
      obtain ⟨A4, k4, e4, hc4⟩ := HS.out.cell
      have HOP := Lib.hid (HS.out.opened (by omega) (by omega) (by omega) hc4 none 0 0 [] (.inl rfl) rfl (fun h => absurd rfl h) (by omega))
      go_wp2_with fail
      refine HOP.out.mono ?_
      rintro e w5 ⟨rfl, hs5⟩
      obtain ⟨A6, k6, e6, hc6⟩ := hs5.swap.cell
      have HOP2 := Lib.hid (hs5.swap.opened (by omega) (by omega) (by omega) hc6 none 0 0 [] (.inl rfl) rfl (fun h => absurd rfl h) (by omega))
      clear hs5 HOP hc4
      go_wp2_with fail
      refine HOP2.out.mono ?_
      rintro e w7 ⟨rfl, hs7⟩
      have HL7 := Lib.hid hs7.low
      clear hs7 HOP2 hc6
      go_wp2_with fail
      go_ret
      exact ⟨rfl, HL7.out⟩
end Go.Proofs.YtlnfeehokpkgiaaDoor.Wal
