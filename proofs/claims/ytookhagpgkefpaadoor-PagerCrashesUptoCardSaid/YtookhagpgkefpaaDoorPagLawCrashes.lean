/- The law 'PagerCrashes'. -/
import Derived.Test.YtookhagpgkefpaaDoorPagShown
import Derived.Test.YtookhagpgkefpaaDoorFold18
import Derived.Test.YtookhagpgkefpaaDoorPagLawPlays
import Derived.Deep.CutRange
import Derived.Deep.CutBlock
import Derived.Deep.LoopGhost
import Derived.BigQuiet
namespace Go.Proofs.YtookhagpgkefpaaDoor.Pag
open Go Go.RowKit Mem Pl Disk Crc _root_.Go.Proofs.YtookhagpgkefpaaDoor.Frame
def optV (mo : Option Nat) : Value := .pointer (mo.map fun y => ⟨y, 0, none⟩)
/-- The state between two rounds. -/
def CrS (W w : World) (a n N np q : Nat) (gv yv mv : Value) : Prop :=
  (∃ (g : Nat) (m : PgM) (T C : Nat → List UInt8) (y : Nat) (r : RM), gv = .pointer (some ⟨g, 0, none⟩) ∧ yv = .pointer (some ⟨y, 0, none⟩) ∧ mv = .pointer none ∧ OnC W w noZ a n N g m T C y r ∧ RSim r m T C ∧ m.gen ≤ q ∧ m.pages = np) ∨
  ∃ (g y : Nat) (mo : Option Nat), gv = .pointer (some ⟨g, 0, none⟩) ∧ yv = .pointer (some ⟨y, 0, none⟩) ∧ mv = .pointer (mo.map fun y => ⟨y, 0, none⟩) ∧ OffC W w a n N np y mo q true
/-- The loop. -/
def CrR (W : World) (a N np L k : Nat) (iv gv yv mv : Value) (wr : World) : Prop :=
  ∃ i : Nat, i + k = L ∧ iv = .int .i64 (i : Int) ∧ CrS W wr a (2 + 11 * i) N np (2 + i) gv yv mv
theorem putM_err (m : PgM) (T : Nat → List UInt8) (b : List UInt8) : (putM m T b).2.2.2 = 0 ∨ (putM m T b).2.2.2 = 5 ∨ (putM m T b).2.2.2 = 3 := by
  unfold putM
  split
  · exact .inr (.inl rfl)
  · split
    · exact .inr (.inr rfl)
    · exact .inl rfl
theorem freeM_gen (m : PgM) (p : Int) : (freeM m p).1.gen = m.gen := (freeM_pages m p).2
set_option maxRecDepth 100000 in
set_option maxHeartbeats 32000000 in
theorem lawCrashes (z : Int) (hz : -9223372036854775808 ≤ z ∧ z < 9223372036854775808) (A1 : Option Addr) (n1 c1 : Nat) (os : List OpP) (W : World) (ht : TabB W.heap.size W) (ho : OpsPAt W A1 os) (hom : os.length = n1) (hm : n1 ≤ 10000000) :
    Calls Tryd.prog 7 #[.int .i64 z, .slice A1 n1 c1] W fun e W' => e = .returned (.bool true) ∧ Below W.heap.size W W' := by
  have HZ := Lib.hid hz
  have HT := Lib.hid ht
  have HSH := Lib.hid (shown_any W ht)
  have HO := Lib.hid ho
  have HOM := Lib.hid hom
  clear hz ht ho hom
  go_enter Tryd.func7, Tryd.ntmps7
  go_wp2_with fail
  refine HSH.out.mono ?_
  rintro e w0 ⟨rfl, hb0⟩
  have HB0 := Lib.hid hb0
  clear hb0
  go_upto_region 2 with fail
  go_cut [33] from 28 to 33 (fun v wc => v = .bool (decide (z < 10 ∨ 200 < z)) ∧ wc = w0)
  case first =>
    by_cases h : z < 10
    · go_wp2_with fail
      go_meet
      exact ⟨by simp [h], rfl⟩
    · by_cases h2 : 200 < z
      · go_wp2_with fail
        go_meet
        exact ⟨by simp [h2], rfl⟩
      · go_wp2_with fail
        go_meet
        exact ⟨by simp [h, h2], rfl⟩
  case rest =>
  obtain ⟨rfl, rfl⟩ := hcut
  obtain ⟨b, hb⟩ : ∃ b, decide (z < 10 ∨ 200 < z) = b := ⟨_, rfl⟩
  rw [hb]
  have HBZ := Lib.hid hb
  clear hb
  go_upto_if 33 with fail
  go_cut [0] from 33 to 33 (fun v wx => ∃ s : Nat, s ≤ 200 ∧ 10 ≤ s ∧ v = .int .i64 (s : Int) ∧ wx = wc)
  case first =>
    have hb := HBZ.out
    cases b with
    | true =>
      go_wp2_with fail
      go_meet
      exact ⟨66, by omega, by omega, rfl, rfl⟩
    | false =>
      have hb2 := of_decide_eq_false hb
      obtain ⟨s, rfl⟩ : ∃ s : Nat, z = (s : Int) := ⟨z.toNat, by omega⟩
      clear hb
      go_wp2_with fail
      go_meet
      exact ⟨s, by omega, by omega, rfl, rfl⟩
  case rest =>
    obtain ⟨n, hn1, hn2, rfl, rfl⟩ := hcut
    have HMD := Lib.hid (made_one (w := wc) (B := W.heap.size) n (by omega) (by omega) HB0.out.size rfl)
    go_wp2_with fail
    refine HMD.out.mono ?_
    rintro e w1 ⟨a, rfl, hp, hb⟩
    have HB1 := Lib.hid (HB0.out.trans (hb.mono HB0.out.size))
    have HT1 := Lib.hid (HT.out.below HB1.out (Nat.le_refl _))
    have HP1 := Lib.hid hp
    have HFM := Lib.hid (hp.formatNew HB1.out.size (by omega) rfl rfl HT1.out (by omega))
    clear hp hb HMD
    go_wp2_with fail
    refine HFM.out.mono ?_
    rintro e w3 ⟨pm3, H3, rfl, hon3, hfu3, hp3, hi3, hm3⟩
    obtain ⟨np, hnp⟩ : ∃ np, min ((n - 2) / 8) 384 = np := ⟨_, rfl⟩
    rw [hnp] at hi3
    have HB3 := Lib.hid (grow_below hm3 HP1.out.lt HB1.out.size HB1.out)
    have HT3 := Lib.hid (HT.out.below HB3.out (Nat.le_refl _))
    have HON3 := Lib.hid hon3
    have HNP := Lib.hid hnp
    have HNQ := Lib.hid (show np ≤ 38 by omega)
    have HOQ := Lib.hid (hp3.opened hi3 HB3.out.size (by omega) hon3 HT3.out hnp)
    clear hp3 hi3 hm3 hon3 hfu3 HFM HP1
    go_wp2_with fail
    refine HOQ.out.mono ?_
    rintro e w4 ⟨g, rfl, hp4, hi4, hb4⟩
    have HI4 : Hid (Inv n H3 [] (pgNew np) noT noT) := Lib.hid hi4
    have HP4 : Hid (Pg1 W.heap.size w4 _ a pm3 _ 0 n H3 [] g (pgNew np)) := Lib.hid hp4
    have HB4 := Lib.hid (HB3.out.trans (hb4.mono HB3.out.size))
    have HRN := Lib.hid (rnew_any w4 n np (by omega) (by omega) HNP.out)
    clear hp4 hi4 hb4 HOQ hnp
    go_wp2_with fail
    refine HRN.out.mono ?_
    rintro e w5 ⟨y, rfl, K5, J5, hr5, hk5, hj5, hb5⟩
    have HST : Hid (OnC W w5 noZ a 2 n g (pgNew np) noT noT y (newR np)) := Lib.hid ⟨_, K5, J5, pm3, H3, [], ⟨HB4.out.trans (hb5.mono HB4.out.size), HP4.out.below hb5, HI4.out, ⟨hr5, fun k hk => by
        have := (HP4.out.lt k hk).2
        exact ⟨fun h => by have := hk5 k h; omega, fun h => by have := hj5 k h; omega⟩, fun k hk => hk.elim (fun h => Nat.le_trans HB4.out.size (hk5 k h)) fun h => Nat.le_trans HB4.out.size (hj5 k h)⟩⟩, HON3.out, noZ_ok⟩
    clear hr5 hk5 hj5 hb5 HRN HP4 HI4 HON3 HB4 HB3 HT3 HT1 HB1
    go_wp2_with fail
    go_loopg [14, 9, 11, 13] n1 (fun k iv gv yv mv wr => CrR W a n np n1 k iv gv yv mv wr)
    case atStart => exact ⟨0, by omega, rfl, .inl ⟨g, _, _, _, y, _, rfl, rfl, rfl, HST.out, RSim.new np, by show 1 ≤ _; omega, rfl⟩⟩
    case round =>
      obtain ⟨i, hi, rfl, hst⟩ := hrel
      have HGI := Lib.hid hi
      clear hi HST
      by_cases hlt : i < n1
      · have hiI : (i : Int) < (n1 : Int) := by omega
        obtain ⟨o, hoi⟩ : ∃ o, os[i]? = some o := ⟨_, List.getElem?_eq_getElem (by rw [HOM.out]; exact hlt)⟩
        obtain ⟨ad, hA, hcells, hok⟩ := HO.out i o hoi
        subst hA
        have HCL := Lib.hid hcells
        have HOK := Lib.hid hok
        clear hcells hok hoi
        obtain ⟨kd, nn, AB, L, cb, AK, nk, ck, bs, keep⟩ := o
        have hkq := kindM_lt kd
        rcases hst with ⟨g, m, T, C, y, r, rfl, rfl, rfl, hst, hsim, hgen, hpages⟩ | ⟨g, y, mo, rfl, rfl, rfl, hst⟩
        · have HSR := Lib.hid hst
          have HSIM := Lib.hid hsim
          have HGEN := Lib.hid hgen
          have HPAGES := Lib.hid hpages
          obtain ⟨x0, x1, x2, x3⟩ := HCL.out.below HSR.out.bel
          dsimp only at x0 x1 x2 x3
          have hb1 : Below wr.heap.size wr (wr.alloc (.cells #[.int .i64 kd, .int .i64 nn, .slice AB L cb, .slice AK nk ck] 40)) := below_al' _
          have HS2 := Lib.hid (HSR.out.new hb1)
          have HBK := Lib.hid (Blk.new wr 40 #[.int .i64 kd, .int .i64 nn, .slice AB L cb, .slice AK nk ck])
          have HZ2 := Lib.hid (show New wr (wr.alloc (.cells #[.int .i64 kd, .int .i64 nn, .slice AB L cb, .slice AK nk ck] 40)) wr.heap.size from ⟨Nat.le_refl _, by simp⟩)
          have HONW := Lib.hid HS2.out.on
          have HKD := Lib.hid (kind_any (wr.alloc (.cells #[.int .i64 kd, .int .i64 nn, .slice AB L cb, .slice AK nk ck] 40)) kd HOK.out.kd)
          clear hst hsim hgen hpages
          go_wp2_with fail
          refine HONW.out.mono ?_
          rintro e w2 ⟨rfl, hw2⟩
          rw [hw2] at HS2 HBK HZ2 HKD
          have hwz : wr.heap.size < w2.heap.size := HZ2.out.2
          clear hw2 HONW x0 x1 x2 x3 hb1
          generalize wr.heap.size = oo at *
          obtain ⟨y0, y1, y2, y3⟩ : w2.cell? ⟨oo, 0, none⟩ = some (.int .i64 kd) ∧ w2.cell? ⟨oo, 1, none⟩ = some (.int .i64 nn) ∧ w2.cell? ⟨oo, 2, none⟩ = some (.slice AB L cb) ∧ w2.cell? ⟨oo, 3, none⟩ = some (.slice AK nk ck) := ⟨HBK.out.cell 0, HBK.out.cell 1, HBK.out.cell 2, HBK.out.cell 3⟩
          go_wp2_with fail
          refine HKD.out.mono ?_
          rintro e _ ⟨rfl, rfl⟩
          have hK := hkq
          generalize kindM kd = kk at *
          go_upto_block 2 with fail
          go_cut [7, 9, 11, 13, 16, 17, 18, 19, 20, 21, 22, 23, 24, 25] from 99 to 195 (fun _ gv yv mv _ _ _ _ _ _ _ _ _ _ wc => CrS W wc a (2 + 11 * (i + 1)) n np (3 + i) gv yv mv)
          case first =>
            have hK' : kk = 0 ∨ kk = 1 ∨ kk = 2 ∨ kk = 3 ∨ kk = 4 ∨ kk = 5 ∨ kk = 6 ∨ kk = 7 ∨ kk = 8 ∨ kk = 9 := by omega
            clear hK
            rcases hK' with rfl | rfl | rfl | rfl | rfl | rfl | rfl | rfl | rfl | rfl
            · have hmo : L ≤ 100000000 := HOK.out.most
              obtain ⟨pn, hpn⟩ : ∃ pn, (putM m T bs).2.2.1 = pn := ⟨_, rfl⟩
              obtain ⟨pe, hpe⟩ : ∃ pe, (putM m T bs).2.2.2 = pe := ⟨_, rfl⟩
              have HSP := Lib.hid (HSIM.out.put HS2.out.use48.1 HS2.out.use48.2 bs (by rw [HOK.out.len]; exact hmo))
              have hp2 := HS2.out.put HSIM.out HGEN.out (by omega) HT.out AB L cb bs (HOK.out.bs.below HS2.out.bel) HOK.out.len (by omega)
              rw [hpn, hpe, HPAGES.out] at hp2
              have HP2 := Lib.hid hp2
              have HPN := Lib.hid hpn
              have HPE := Lib.hid hpe
              have hpe2 : (pe == 2) = false := by rcases putM_err m T bs with h | h | h <;> rw [hpe] at h <;> subst h <;> rfl
              clear hp2 hpn hpe
              go_wp2_with fail
              refine HP2.out.mono ?_
              rintro e w3 ⟨hm3, ⟨rfl, hs3⟩ | ⟨rfl, hs3⟩⟩
              · have HBK3 := Lib.hid (blk_z HBK.out hm3 (.inr HZ2.out))
                have hrp := hs3.rput AB L cb bs HOK.out.bs HOK.out.len (by omega)
                rw [HSP.out.1, HPN.out, HPE.out] at hrp
                have HRP := Lib.hid hrp
                have z2 : w3.cell? ⟨oo, 2, none⟩ = some (.slice AB L cb) := HBK3.out.cell 2
                clear hm3 hs3 hrp HP2 y0 y1 y2 y3
                go_wp2_with fail
                refine HRP.out.mono ?_
                rintro e w4 ⟨rfl, hm4, hs4⟩
                have HS4 := Lib.hid ((hs4.less (Z' := noZ) fun _ h => h.elim).more (show 2 + 11 * i + 8 ≤ 2 + 11 * (i + 1) by omega))
                clear hm4 hs4 HRP z2
                go_wp2_with fail
                go_meet
                exact .inl ⟨g, _, _, _, y, _, rfl, rfl, rfl, HS4.out, HSP.out.2, by rw [(putM_pages m T bs).2.1]; have := HGEN.out; omega, by rw [(putM_pages m T bs).1]; exact HPAGES.out⟩
              · have HS3 := Lib.hid (hs3.more (show 2 + 11 * i + 8 ≤ 2 + 11 * (i + 1) by omega) (show 2 + i ≤ 3 + i by omega))
                clear hm3 hs3 HP2 y0 y1 y2 y3 hpe2
                go_wp2_with fail
                go_meet
                exact .inr ⟨g, y, none, rfl, rfl, rfl, HS3.out⟩
            · have hmo : L ≤ 100000000 := HOK.out.most
              obtain ⟨pn, hpn⟩ : ∃ pn, (putM m T bs).2.2.1 = pn := ⟨_, rfl⟩
              obtain ⟨pe, hpe⟩ : ∃ pe, (putM m T bs).2.2.2 = pe := ⟨_, rfl⟩
              have HSP := Lib.hid (HSIM.out.put HS2.out.use48.1 HS2.out.use48.2 bs (by rw [HOK.out.len]; exact hmo))
              have hp2 := HS2.out.put HSIM.out HGEN.out (by omega) HT.out AB L cb bs (HOK.out.bs.below HS2.out.bel) HOK.out.len (by omega)
              rw [hpn, hpe, HPAGES.out] at hp2
              have HP2 := Lib.hid hp2
              have HPN := Lib.hid hpn
              have HPE := Lib.hid hpe
              have hpe2 : (pe == 2) = false := by rcases putM_err m T bs with h | h | h <;> rw [hpe] at h <;> subst h <;> rfl
              clear hp2 hpn hpe
              go_wp2_with fail
              refine HP2.out.mono ?_
              rintro e w3 ⟨hm3, ⟨rfl, hs3⟩ | ⟨rfl, hs3⟩⟩
              · have HBK3 := Lib.hid (blk_z HBK.out hm3 (.inr HZ2.out))
                have hrp := hs3.rput AB L cb bs HOK.out.bs HOK.out.len (by omega)
                rw [HSP.out.1, HPN.out, HPE.out] at hrp
                have HRP := Lib.hid hrp
                have z2 : w3.cell? ⟨oo, 2, none⟩ = some (.slice AB L cb) := HBK3.out.cell 2
                clear hm3 hs3 hrp HP2 y0 y1 y2 y3
                go_wp2_with fail
                refine HRP.out.mono ?_
                rintro e w4 ⟨rfl, hm4, hs4⟩
                have HS4 := Lib.hid ((hs4.less (Z' := noZ) fun _ h => h.elim).more (show 2 + 11 * i + 8 ≤ 2 + 11 * (i + 1) by omega))
                clear hm4 hs4 HRP z2
                go_wp2_with fail
                go_meet
                exact .inl ⟨g, _, _, _, y, _, rfl, rfl, rfl, HS4.out, HSP.out.2, by rw [(putM_pages m T bs).2.1]; have := HGEN.out; omega, by rw [(putM_pages m T bs).1]; exact HPAGES.out⟩
              · have HS3 := Lib.hid (hs3.more (show 2 + 11 * i + 8 ≤ 2 + 11 * (i + 1) by omega) (show 2 + i ≤ 3 + i by omega))
                clear hm3 hs3 HP2 y0 y1 y2 y3 hpe2
                go_wp2_with fail
                go_meet
                exact .inr ⟨g, y, none, rfl, rfl, rfl, HS3.out⟩
            · have hmo : L ≤ 100000000 := HOK.out.most
              obtain ⟨pn, hpn⟩ : ∃ pn, (putM m T bs).2.2.1 = pn := ⟨_, rfl⟩
              obtain ⟨pe, hpe⟩ : ∃ pe, (putM m T bs).2.2.2 = pe := ⟨_, rfl⟩
              have HSP := Lib.hid (HSIM.out.put HS2.out.use48.1 HS2.out.use48.2 bs (by rw [HOK.out.len]; exact hmo))
              have hp2 := HS2.out.put HSIM.out HGEN.out (by omega) HT.out AB L cb bs (HOK.out.bs.below HS2.out.bel) HOK.out.len (by omega)
              rw [hpn, hpe, HPAGES.out] at hp2
              have HP2 := Lib.hid hp2
              have HPN := Lib.hid hpn
              have HPE := Lib.hid hpe
              have hpe2 : (pe == 2) = false := by rcases putM_err m T bs with h | h | h <;> rw [hpe] at h <;> subst h <;> rfl
              clear hp2 hpn hpe
              go_wp2_with fail
              refine HP2.out.mono ?_
              rintro e w3 ⟨hm3, ⟨rfl, hs3⟩ | ⟨rfl, hs3⟩⟩
              · have HBK3 := Lib.hid (blk_z HBK.out hm3 (.inr HZ2.out))
                have hrp := hs3.rput AB L cb bs HOK.out.bs HOK.out.len (by omega)
                rw [HSP.out.1, HPN.out, HPE.out] at hrp
                have HRP := Lib.hid hrp
                have z2 : w3.cell? ⟨oo, 2, none⟩ = some (.slice AB L cb) := HBK3.out.cell 2
                clear hm3 hs3 hrp HP2 y0 y1 y2 y3
                go_wp2_with fail
                refine HRP.out.mono ?_
                rintro e w4 ⟨rfl, hm4, hs4⟩
                have HS4 := Lib.hid ((hs4.less (Z' := noZ) fun _ h => h.elim).more (show 2 + 11 * i + 8 ≤ 2 + 11 * (i + 1) by omega))
                clear hm4 hs4 HRP z2
                go_wp2_with fail
                go_meet
                exact .inl ⟨g, _, _, _, y, _, rfl, rfl, rfl, HS4.out, HSP.out.2, by rw [(putM_pages m T bs).2.1]; have := HGEN.out; omega, by rw [(putM_pages m T bs).1]; exact HPAGES.out⟩
              · have HS3 := Lib.hid (hs3.more (show 2 + 11 * i + 8 ≤ 2 + 11 * (i + 1) by omega) (show 2 + i ≤ 3 + i by omega))
                clear hm3 hs3 HP2 y0 y1 y2 y3 hpe2
                go_wp2_with fail
                go_meet
                exact .inr ⟨g, y, none, rfl, rfl, rfl, HS3.out⟩
            · have hmo : L ≤ 100000000 := HOK.out.most
              obtain ⟨pn, hpn⟩ : ∃ pn, (putM m T bs).2.2.1 = pn := ⟨_, rfl⟩
              obtain ⟨pe, hpe⟩ : ∃ pe, (putM m T bs).2.2.2 = pe := ⟨_, rfl⟩
              have HSP := Lib.hid (HSIM.out.put HS2.out.use48.1 HS2.out.use48.2 bs (by rw [HOK.out.len]; exact hmo))
              have hp2 := HS2.out.put HSIM.out HGEN.out (by omega) HT.out AB L cb bs (HOK.out.bs.below HS2.out.bel) HOK.out.len (by omega)
              rw [hpn, hpe, HPAGES.out] at hp2
              have HP2 := Lib.hid hp2
              have HPN := Lib.hid hpn
              have HPE := Lib.hid hpe
              have hpe2 : (pe == 2) = false := by rcases putM_err m T bs with h | h | h <;> rw [hpe] at h <;> subst h <;> rfl
              clear hp2 hpn hpe
              go_wp2_with fail
              refine HP2.out.mono ?_
              rintro e w3 ⟨hm3, ⟨rfl, hs3⟩ | ⟨rfl, hs3⟩⟩
              · have HBK3 := Lib.hid (blk_z HBK.out hm3 (.inr HZ2.out))
                have hrp := hs3.rput AB L cb bs HOK.out.bs HOK.out.len (by omega)
                rw [HSP.out.1, HPN.out, HPE.out] at hrp
                have HRP := Lib.hid hrp
                have z2 : w3.cell? ⟨oo, 2, none⟩ = some (.slice AB L cb) := HBK3.out.cell 2
                clear hm3 hs3 hrp HP2 y0 y1 y2 y3
                go_wp2_with fail
                refine HRP.out.mono ?_
                rintro e w4 ⟨rfl, hm4, hs4⟩
                have HS4 := Lib.hid ((hs4.less (Z' := noZ) fun _ h => h.elim).more (show 2 + 11 * i + 8 ≤ 2 + 11 * (i + 1) by omega))
                clear hm4 hs4 HRP z2
                go_wp2_with fail
                go_meet
                exact .inl ⟨g, _, _, _, y, _, rfl, rfl, rfl, HS4.out, HSP.out.2, by rw [(putM_pages m T bs).2.1]; have := HGEN.out; omega, by rw [(putM_pages m T bs).1]; exact HPAGES.out⟩
              · have HS3 := Lib.hid (hs3.more (show 2 + 11 * i + 8 ≤ 2 + 11 * (i + 1) by omega) (show 2 + i ≤ 3 + i by omega))
                clear hm3 hs3 HP2 y0 y1 y2 y3 hpe2
                go_wp2_with fail
                go_meet
                exact .inr ⟨g, y, none, rfl, rfl, rfl, HS3.out⟩
            · obtain ⟨fe, hfe⟩ : ∃ fe, (freeM m nn).2 = fe := ⟨_, rfl⟩
              have hf3 := HS2.out.free nn
              rw [hfe] at hf3
              have HF4 := Lib.hid hf3
              have HFE : Hid ((if r.used nn then 0 else 90 : Int) = fe) := Lib.hid (by rw [← hfe, HSIM.out.used]; unfold freeM; split <;> rfl)
              clear hf3 hfe
              go_wp2_with fail
              refine HF4.out.mono ?_
              rintro e w3 ⟨rfl, hm3, hs3⟩
              have HBK3 := Lib.hid (blk_z HBK.out hm3 (.inr HZ2.out))
              have hrf := hs3.rfree nn
              rw [HFE.out] at hrf
              have HRF := Lib.hid hrf
              have z1 : w3.cell? ⟨oo, 1, none⟩ = some (.int .i64 nn) := HBK3.out.cell 1
              clear hm3 hs3 hrf HF4 y0 y1 y2 y3
              go_wp2_with fail
              refine HRF.out.mono ?_
              rintro e w4 ⟨rfl, hm4, hs4⟩
              have HS4 := Lib.hid ((hs4.less (Z' := noZ) fun _ h => h.elim).more (show 2 + 11 * i ≤ 2 + 11 * (i + 1) by omega))
              clear hm4 hs4 HRF z1
              go_wp2_with fail
              go_meet
              exact .inl ⟨g, _, _, _, y, _, rfl, rfl, rfl, HS4.out, HSIM.out.freed HS2.out.use48.1 HS2.out.use48.2 nn, by rw [(freeM_pages m nn).2]; have := HGEN.out; omega, by rw [(freeM_pages m nn).1]; exact HPAGES.out⟩
            · have HC2 := Lib.hid HS2.out.rclone
              go_wp2_with fail
              refine HC2.out.mono ?_
              rintro e w3 ⟨yc, rfl, hb3, hs3⟩
              have HBK3 := Lib.hid (HBK.out.below_ hb3)
              have HS3 := Lib.hid hs3
              have HRC := Lib.hid (hs3.rcommit nn)
              have z1 : w3.cell? ⟨oo, 1, none⟩ = some (.int .i64 nn) := HBK3.out.cell 1
              clear hb3 hs3 HC2 y0 y1 y2 y3
              cases hr : m.rootMay nn with
              | false =>
                have HR := Lib.hid hr
                have HCM := Lib.hid (HS3.out.commitNo hr (by omega) HT.out (by have := HGEN.out; omega))
                clear hr
                go_wp2_with fail
                refine HRC.out.mono ?_
                rintro e w4 (⟨_, rfl, rfl⟩ | ⟨hu, _⟩)
                · go_wp2_with fail
                  refine HCM.out.mono ?_
                  rintro e _ ⟨rfl, rfl⟩
                  have HS4 := Lib.hid ((HS3.out.second.less (Z' := noZ) fun _ h => h.elim).more (show 2 + 11 * i ≤ 2 + 11 * (i + 1) by omega))
                  clear HRC HCM z1
                  go_wp2_with fail
                  go_meet
                  exact .inl ⟨g, m, T, C, yc, r, rfl, rfl, rfl, HS4.out, HSIM.out, by have := HGEN.out; omega, HPAGES.out⟩
                · have h1 := (HSIM.out.may nn).1 hu
                  rw [HR.out] at h1
                  cases h1
              | true =>
                have HR := Lib.hid hr
                clear hr
                go_wp2_with fail
                refine HRC.out.mono ?_
                rintro e w4 (⟨⟨hne, hu⟩, _⟩ | ⟨_, rfl, hm4, hs4⟩)
                · rcases (HSIM.out.may nn).2 HR.out with h | h
                  · exact absurd h hne
                  · rw [hu] at h
                    cases h
                · have HBK4 := Lib.hid (blk_z HBK3.out hm4 (.inr HZ2.out))
                  have hcm := hs4.commit (q := 3 + i) HSIM.out HR.out (by have := HGEN.out; omega) (by omega) HT.out (by have := HGEN.out; omega)
                  rw [HPAGES.out] at hcm
                  have HCM := Lib.hid hcm
                  have z2 : w4.cell? ⟨oo, 1, none⟩ = some (.int .i64 nn) := HBK4.out.cell 1
                  clear hm4 hs4 hcm HRC z1
                  go_wp2_with fail
                  refine HCM.out.mono ?_
                  rintro e w5 (⟨rfl, hs5⟩ | ⟨rfl, hs5⟩)
                  · have HS5 := Lib.hid ((hs5.less (Z' := noZ) fun _ h => h.elim).more (show 2 + 11 * i + 3 ≤ 2 + 11 * (i + 1) by omega))
                    clear hs5 HCM z2
                    go_wp2_with fail
                    go_meet
                    exact .inl ⟨g, _, _, _, yc, _, rfl, rfl, rfl, HS5.out, HSIM.out.committed nn, by show m.gen + 1 ≤ 3 + i; have := HGEN.out; omega, HPAGES.out⟩
                  · have HS5 := Lib.hid (hs5.more (show 2 + 11 * i + 3 ≤ 2 + 11 * (i + 1) by omega) (Nat.le_refl _))
                    clear hs5 HCM z2
                    go_wp2_with fail
                    go_meet
                    exact .inr ⟨g, y, some yc, rfl, rfl, rfl, HS5.out⟩
            · have HS4 := Lib.hid ((HS2.out.less (Z' := noZ) fun _ h => h.elim).more (show 2 + 11 * i ≤ 2 + 11 * (i + 1) by omega))
              go_wp2_with fail
              go_meet
              exact .inl ⟨g, m, T, C, y, r, rfl, rfl, rfl, HS4.out, HSIM.out, by have := HGEN.out; omega, HPAGES.out⟩
            · have HF := Lib.hid (HS2.out.setFuse nn HOK.out.n.2)
              go_wp2_with fail
              refine HF.out.mono ?_
              rintro e w3 ⟨rfl, hm3, hs3⟩
              have HS3 := Lib.hid ((hs3.less (Z' := noZ) fun _ h => h.elim).more (show 2 + 11 * i + 1 ≤ 2 + 11 * (i + 1) by omega))
              clear hm3 hs3 HF y0 y1 y2 y3
              go_wp2_with fail
              go_meet
              exact .inl ⟨g, m, T, C, y, r, rfl, rfl, rfl, HS3.out, HSIM.out, by have := HGEN.out; omega, HPAGES.out⟩
            · have hof := HS2.out.crash HSIM.out HGEN.out
              rw [HPAGES.out] at hof
              have HBT := Lib.hid (hof.boot (by omega) AK nk ck keep HOK.out.keep HOK.out.klen HOK.out.kmost)
              clear hof
              go_wp2_with fail
              refine HBT.out.mono ?_
              rintro e w3 ⟨rfl, hA | ⟨yb, h, _⟩⟩
              · have HOP := Lib.hid (hA.opened (by omega) HT.out HNP.out)
                clear hA HBT y0 y1 y2 y3
                go_wp2_with fail
                refine HOP.out.mono ?_
                rintro e w4 ⟨g4, M, D, r4, rfl, hs4, hsim4, hgen4, hpg4⟩
                have HSIM4 := Lib.hid hsim4
                have HGEN4 := Lib.hid hgen4
                have HPG4 := Lib.hid hpg4
                have HRD := Lib.hid hs4.rdrop
                clear hs4 hsim4 hgen4 hpg4 HOP
                go_wp2_with fail
                refine HRD.out.mono ?_
                rintro e w5 ⟨rfl, hm5, hs5⟩
                have HS5 := Lib.hid hs5
                have HAL := Lib.hid (hs5.alike HSIM4.out (by omega) HT.out)
                clear hm5 hs5 HRD
                go_wp2_with fail
                refine HAL.out.mono ?_
                rintro e w6 ⟨rfl, hb6⟩
                have HS6 := Lib.hid ((HS5.out.below hb6).more (show 2 + 11 * i + 1 ≤ 2 + 11 * (i + 1) by omega))
                clear hb6 HAL
                go_wp2_with fail
                go_meet
                exact .inl ⟨g4, _, _, _, y, _, rfl, rfl, rfl, HS6.out, HSIM4.out, by show M.gen ≤ _; have := HGEN4.out; omega, HPG4.out⟩
              · cases h
            · have HS4 := Lib.hid ((HS2.out.less (Z' := noZ) fun _ h => h.elim).more (show 2 + 11 * i ≤ 2 + 11 * (i + 1) by omega))
              go_wp2_with fail
              go_meet
              exact .inl ⟨g, m, T, C, y, r, rfl, rfl, rfl, HS4.out, HSIM.out, by have := HGEN.out; omega, HPAGES.out⟩
          case rest =>
            rcases hcut with ⟨g3, m3, T3, C3, y3, r3, rfl, rfl, rfl, hst, hsim, hgen, hpages⟩ | ⟨g3, y3, mo3, rfl, rfl, rfl, hst⟩
            · have HS3 := Lib.hid hst
              have HSIM3 := Lib.hid hsim
              have HGEN3 := Lib.hid hgen
              have HPAGES3 := Lib.hid hpages
              have HONX := Lib.hid hst.on
              have HAL := Lib.hid (hst.alike hsim (by omega) HT.out)
              clear hst hsim hgen hpages
              go_wp2_with fail
              refine HONX.out.mono ?_
              rintro e _ ⟨rfl, rfl⟩
              go_wp2_with fail
              refine HAL.out.mono ?_
              rintro e w4 ⟨rfl, hb4⟩
              have HS4 := Lib.hid (HS3.out.below hb4)
              clear hb4 HAL
              go_wp2_with fail
              go_roundg (gk - 1)
              case measure => have := HGI.out; omega
              case rel => exact ⟨i + 1, by have := HGI.out; omega, by go_num, .inl ⟨g3, m3, T3, C3, y3, r3, rfl, rfl, rfl, HS4.out, HSIM3.out, by have := HGEN3.out; omega, HPAGES3.out⟩⟩
            · have HS3 := Lib.hid hst
              have HONX := Lib.hid hst.on
              clear hst
              go_wp2_with fail
              refine HONX.out.mono ?_
              rintro e _ ⟨rfl, rfl⟩
              go_wp2_with fail
              go_roundg (gk - 1)
              case measure => have := HGI.out; omega
              case rel => exact ⟨i + 1, by have := HGI.out; omega, by go_num, .inr ⟨g3, y3, mo3, rfl, rfl, rfl, HS3.out.more (Nat.le_refl _) (by omega)⟩⟩
        · have HSF := Lib.hid hst
          obtain ⟨x0, x1, x2, x3⟩ := HCL.out.below HSF.out.bel
          dsimp only at x0 x1 x2 x3
          have hb1 : Below wr.heap.size wr (wr.alloc (.cells #[.int .i64 kd, .int .i64 nn, .slice AB L cb, .slice AK nk ck] 40)) := below_al' _
          have HS2 := Lib.hid (HSF.out.below hb1)
          have HBK := Lib.hid (Blk.new wr 40 #[.int .i64 kd, .int .i64 nn, .slice AB L cb, .slice AK nk ck])
          have HZ2 := Lib.hid (show New wr (wr.alloc (.cells #[.int .i64 kd, .int .i64 nn, .slice AB L cb, .slice AK nk ck] 40)) wr.heap.size from ⟨Nat.le_refl _, by simp⟩)
          have HONW := Lib.hid HS2.out.on
          have HKD := Lib.hid (kind_any (wr.alloc (.cells #[.int .i64 kd, .int .i64 nn, .slice AB L cb, .slice AK nk ck] 40)) kd HOK.out.kd)
          clear hst
          go_wp2_with fail
          refine HONW.out.mono ?_
          rintro e w2 ⟨rfl, hw2⟩
          rw [hw2] at HS2 HBK HKD
          clear hw2 HONW x0 x1 x2 x3 hb1
          generalize wr.heap.size = oo at *
          obtain ⟨y0, y1, y2, y3⟩ : w2.cell? ⟨oo, 0, none⟩ = some (.int .i64 kd) ∧ w2.cell? ⟨oo, 1, none⟩ = some (.int .i64 nn) ∧ w2.cell? ⟨oo, 2, none⟩ = some (.slice AB L cb) ∧ w2.cell? ⟨oo, 3, none⟩ = some (.slice AK nk ck) := ⟨HBK.out.cell 0, HBK.out.cell 1, HBK.out.cell 2, HBK.out.cell 3⟩
          by_cases hk8 : kindM kd = 8
          · rw [hk8] at HKD
            clear hkq hk8
            go_wp2_with fail
            refine HKD.out.mono ?_
            rintro e _ ⟨rfl, rfl⟩
            go_wp2_with fail
            refine HKD.out.mono ?_
            rintro e _ ⟨rfl, rfl⟩
            go_upto_block 2 with fail
            go_cut [7, 9, 11, 13, 16, 17, 18, 19, 20, 21, 22, 23, 24, 25] from 99 to 195 (fun _ gv yv mv _ _ _ _ _ _ _ _ _ _ wc => CrS W wc a (2 + 11 * (i + 1)) n np (3 + i) gv yv mv)
            case first =>
              have HBT := Lib.hid (HS2.out.boot (by omega) AK nk ck keep HOK.out.keep HOK.out.klen HOK.out.kmost)
              go_wp2_with fail
              refine HBT.out.mono ?_
              rintro e w3 ⟨rfl, hA | ⟨yb, rfl, hB⟩⟩
              · have HOP := Lib.hid (hA.opened (by omega) HT.out HNP.out)
                clear hA HBT y0 y1 y2 y3
                go_wp2_with fail
                refine HOP.out.mono ?_
                rintro e w4 ⟨g4, M, D, r4, rfl, hs4, hsim4, hgen4, hpg4⟩
                have HSIM4 := Lib.hid hsim4
                have HGEN4 := Lib.hid hgen4
                have HPG4 := Lib.hid hpg4
                have HRD := Lib.hid hs4.rdrop
                clear hs4 hsim4 hgen4 hpg4 HOP
                go_wp2_with fail
                refine HRD.out.mono ?_
                rintro e w5 ⟨rfl, hm5, hs5⟩
                have HS5 := Lib.hid hs5
                have HAL := Lib.hid (hs5.alike HSIM4.out (by omega) HT.out)
                clear hm5 hs5 HRD
                go_wp2_with fail
                refine HAL.out.mono ?_
                rintro e w6 ⟨rfl, hb6⟩
                have HS6 := Lib.hid ((HS5.out.below hb6).more (show 2 + 11 * i + 1 ≤ 2 + 11 * (i + 1) by omega))
                clear hb6 HAL
                go_wp2_with fail
                go_meet
                exact .inl ⟨g4, _, _, _, y, _, rfl, rfl, rfl, HS6.out, HSIM4.out, by show M.gen ≤ _; have := HGEN4.out; omega, HPG4.out⟩
              · simp only [Option.map_some]
                have HOP := Lib.hid (hB.opened (by omega) HT.out HNP.out)
                clear hB HBT y0 y1 y2 y3
                go_wp2_with fail
                refine HOP.out.mono ?_
                rintro e w4 ⟨g4, m4, M, C4, D, r4, r5, rfl, hs4, hsimr, hpm, hsim2, hgen4, hpg4⟩
                have HSR4 := Lib.hid hsimr
                have HPM4 := Lib.hid hpm
                have HSIM4 := Lib.hid hsim2
                have HGEN4 := Lib.hid hgen4
                have HPG4 := Lib.hid hpg4
                have HRD := Lib.hid hs4.rdrop
                clear hs4 hsimr hpm hsim2 hgen4 hpg4 HOP
                go_wp2_with fail
                refine HRD.out.mono ?_
                rintro e w5 ⟨rfl, hs5⟩
                have HS5 := Lib.hid hs5
                have HAL := Lib.hid (hs5.alike (HSR4.out.pages.trans (HPM4.out.trans HPG4.out.symm)) HSR4.out.len (by show M.pages ≤ 38; rw [HPG4.out]; exact HNQ.out) (by omega) HT.out)
                clear hs5 HRD
                go_wp2_with fail
                refine HAL.out.mono ?_
                rintro e w6 ⟨hb6, rfl | ⟨rfl, hroot, hall⟩⟩
                · have HRD2 := Lib.hid (HS5.out.below hb6).second.rdrop
                  clear hb6 HAL
                  go_wp2_with fail
                  refine HRD2.out.mono ?_
                  rintro e w7 ⟨rfl, hm7, hs7⟩
                  have HS7 := Lib.hid (hs7.more (show 2 + 11 * i + 1 ≤ 2 + 11 * (i + 1) by omega))
                  clear hm7 hs7 HRD2
                  go_wp2_with fail
                  go_meet
                  exact .inl ⟨g4, _, _, _, yb, _, rfl, rfl, rfl, HS7.out, HSIM4.out, by show M.gen ≤ _; have := HGEN4.out; omega, HPG4.out⟩
                · have HS6 := Lib.hid ((HS5.out.below hb6).first.more (show 2 + 11 * i + 1 ≤ 2 + 11 * (i + 1) by omega))
                  have HSIM6 := Lib.hid (HSR4.out.observed (HPG4.out.trans HPM4.out.symm) hroot hall)
                  clear hb6 hroot hall HAL
                  go_wp2_with fail
                  go_meet
                  exact .inl ⟨g4, _, _, _, y, _, rfl, rfl, rfl, HS6.out, HSIM6.out, by show M.gen ≤ _; have := HGEN4.out; omega, HPG4.out⟩
            case rest =>
              rcases hcut with ⟨g3, m3, T3, C3, y3, r3, rfl, rfl, rfl, hst, hsim, hgen, hpages⟩ | ⟨g3, y3, mo3, rfl, rfl, rfl, hst⟩
              · have HS3 := Lib.hid hst
                have HSIM3 := Lib.hid hsim
                have HGEN3 := Lib.hid hgen
                have HPAGES3 := Lib.hid hpages
                have HONX := Lib.hid hst.on
                have HAL := Lib.hid (hst.alike hsim (by omega) HT.out)
                clear hst hsim hgen hpages
                go_wp2_with fail
                refine HONX.out.mono ?_
                rintro e _ ⟨rfl, rfl⟩
                go_wp2_with fail
                refine HAL.out.mono ?_
                rintro e w4 ⟨rfl, hb4⟩
                have HS4 := Lib.hid (HS3.out.below hb4)
                clear hb4 HAL
                go_wp2_with fail
                go_roundg (gk - 1)
                case measure => have := HGI.out; omega
                case rel => exact ⟨i + 1, by have := HGI.out; omega, by go_num, .inl ⟨g3, m3, T3, C3, y3, r3, rfl, rfl, rfl, HS4.out, HSIM3.out, by have := HGEN3.out; omega, HPAGES3.out⟩⟩
              · have HS3 := Lib.hid hst
                have HONX := Lib.hid hst.on
                clear hst
                go_wp2_with fail
                refine HONX.out.mono ?_
                rintro e _ ⟨rfl, rfl⟩
                go_wp2_with fail
                go_roundg (gk - 1)
                case measure => have := HGI.out; omega
                case rel => exact ⟨i + 1, by have := HGI.out; omega, by go_num, .inr ⟨g3, y3, mo3, rfl, rfl, rfl, HS3.out.more (Nat.le_refl _) (by omega)⟩⟩
          · have hkI : ¬ (kindM kd : Int) = 8 := by omega
            generalize kindM kd = kk at *
            go_wp2_with fail
            refine HKD.out.mono ?_
            rintro e _ ⟨rfl, rfl⟩
            go_wp2_with fail
            go_roundg (gk - 1)
            case measure => have := HGI.out; omega
            case rel => exact ⟨i + 1, by have := HGI.out; omega, by go_num, .inr ⟨g, y, mo, rfl, rfl, rfl, HS2.out.more (by omega) (by omega)⟩⟩
      · have hiI : ¬ ((i : Nat) : Int) < (n1 : Int) := by omega
        have HBW : Hid (Below W.heap.size W wr) := Lib.hid (by
          rcases hst with ⟨g, m, T, C, y, r, _, _, _, hst, _⟩ | ⟨g, y, mo, _, _, _, hst⟩
          · exact hst.bel
          · exact hst.bel)
        clear hst
        go_wp2_with fail
        go_ret
        exact ⟨rfl, HBW.out⟩
end Go.Proofs.YtookhagpgkefpaaDoor.Pag
