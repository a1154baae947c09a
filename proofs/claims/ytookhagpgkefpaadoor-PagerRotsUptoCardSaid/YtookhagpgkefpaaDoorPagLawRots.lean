/- The law 'PagerRots'. -/
import Derived.Test.YtookhagpgkefpaaDoorPagRaw
import Derived.Lib.SlBytesConst
namespace Go.Proofs.YtookhagpgkefpaaDoor.Pag
open Go Go.RowKit Mem Pl Disk Crc _root_.Go.Proofs.YtookhagpgkefpaaDoor.Frame
def RtR1 (W : World) (n0 a g : Nat) (Hs : List (List UInt8)) (iv : Value) (wr : World) : Prop :=
  ∃ (i : Nat) (K : Nat → Prop) (pm : PM) (ws : Ws) (m : PgM), i ≤ n0 ∧ i ≤ 9 ∧ iv = .int .i64 (i : Int) ∧ Below W.heap.size W wr ∧ Pg1 W.heap.size wr K a pm (2 + 8 * i) 0 100 Hs ws g m ∧ pm.off = false ∧ pm.fuse = none ∧ m.gen = 1
def RtR2 (W : World) (n1 a : Nat) (iv : Value) (wr : World) : Prop :=
  ∃ (i : Nat) (K : Nat → Prop) (pm : PM) (Hs : List (List UInt8)), i ≤ n1 ∧ iv = .int .i64 (i : Int) ∧ Below W.heap.size W wr ∧ Pd1 W.heap.size wr K a pm 100 0 100 Hs [] ∧ pm.off = false ∧ pm.fuse = none
def RtR3 (W : World) (a g : Nat) (pm : PM) (Hs : List (List UInt8)) (m : PgM) (iv : Value) (wr : World) : Prop :=
  ∃ (i : Int) (K : Nat → Prop), -1 ≤ i ∧ i ≤ 14 ∧ iv = .int .i64 i ∧ Below W.heap.size W wr ∧ Pg1 W.heap.size wr K a pm 100 0 100 Hs [] g m
theorem b100 : min ((100 - 2) / 8) 384 = 12 := by decide
def bMore : List UInt8 := [109, 111, 114, 101]
set_option maxRecDepth 100000 in
set_option maxHeartbeats 16000000 in
theorem lawRots (A0 A1 : Option Addr) (n0 n1 c0 c1 : Nat) (l0 : List (List UInt8)) (ts : List Tri) (W : World) (ht : TabB W.heap.size W) (h0 : RowsAt W A0 l0) (hn0 : l0.length = n0) (h1 : TrisAt W A1 ts) (hn1 : ts.length = n1) (hm0 : n0 ≤ 10000000) (hm1 : n1 ≤ 10000000) (hL0 : ∀ b ∈ l0, b.length ≤ 100000000) :
    Calls Tryd.prog 4 #[.slice A0 n0 c0, .slice A1 n1 c1] W fun e W' => e = .returned (.bool true) ∧ Below W.heap.size W W' := by
  have HT := Lib.hid ht
  have H0 := Lib.hid h0
  have H1 := Lib.hid h1
  have HN0 := Lib.hid hn0
  have HN1 := Lib.hid hn1
  have HL0 := Lib.hid hL0
  have HSH := Lib.hid (shown_any W ht)
  clear ht h0 h1 hn0 hn1 hL0
  go_enter Tryd.func4, Tryd.ntmps4
  go_wp2_with fail
  refine HSH.out.mono ?_
  rintro e w0 ⟨rfl, hb0⟩
  have HB0 := Lib.hid hb0
  have HMD := Lib.hid (made_one (w := w0) (B := W.heap.size) 100 (by omega) (by omega) hb0.size rfl)
  clear hb0 HSH
  go_wp2_with fail
  refine HMD.out.mono ?_
  rintro e w1 ⟨a, rfl, hp, hb⟩
  have HB1 := Lib.hid (HB0.out.trans (hb.mono HB0.out.size))
  have HT1 := Lib.hid (HT.out.below HB1.out (Nat.le_refl _))
  have HP1 := Lib.hid hp
  have HFM := Lib.hid (hp.formatNew HB1.out.size (by omega) rfl rfl HT1.out (by omega))
  clear hp hb HMD
  go_wp2_with fail
  refine HFM.out.mono ?_
  rintro e w3 ⟨pm3, H3, rfl, hon3, hfu3, hp3, hi3, hm3⟩
  rw [b100] at hi3
  have HP3 := Lib.hid hp3
  have HI3 := Lib.hid hi3
  have HB3 := Lib.hid (grow_below hm3 HP1.out.lt HB1.out.size HB1.out)
  have HT3 := Lib.hid (HT.out.below HB3.out (Nat.le_refl _))
  have HON3 := Lib.hid hon3
  have HFU3 := Lib.hid hfu3
  have HOQ := Lib.hid (hp3.opened hi3 HB3.out.size (by omega) hon3 HT3.out rfl)
  clear hp3 hi3 hm3 hon3 hfu3 HFM
  go_wp2_with fail
  refine HOQ.out.mono ?_
  rintro e w4 ⟨g, rfl, hp4, hi4, hb4⟩
  have HP4 : Hid (Pg1 W.heap.size w4 _ a pm3 _ 0 100 H3 [] g (pgNew 12)) := Lib.hid hp4
  have HB4 := Lib.hid (HB3.out.trans (hb4.mono HB3.out.size))
  clear hp4 hi4 hb4 HOQ
  go_wp2_with fail
  go_loopw [11] (fun iv wr => RtR1 W n0 a g H3 iv wr) (fun iv _ => 9 - (intOf iv).toNat)
  case atStart => exact ⟨0, _, _, _, _, by omega, by omega, rfl, HB4.out, HP4.out, HON3.out, HFU3.out, rfl⟩
  case round =>
    obtain ⟨i, K, pm, ws, m, hi, hi9, rfl, hbw, hp, hon, hfu, hmg⟩ := hrel
    have HBW := Lib.hid hbw
    have HP := Lib.hid hp
    have HON := Lib.hid hon
    have HFU := Lib.hid hfu
    have HMG := Lib.hid hmg
    have HTW := Lib.hid (HT.out.below hbw (Nat.le_refl _))
    clear hbw hp hon hfu hmg
    by_cases hgo : i < n0 ∧ i < 9
    · obtain ⟨hlt, hlt2⟩ := hgo
      have hiI : (i : Int) < (n0 : Int) := by omega
      have hi2I : (i : Int) < 9 := by omega
      obtain ⟨b, hb⟩ : ∃ b, l0[i]? = some b := ⟨_, List.getElem?_eq_getElem (by rw [HN0.out]; exact hlt)⟩
      have hbl := HL0.out b (List.mem_of_getElem? hb)
      obtain ⟨ad, AB, cb, hA, hcell, hbat⟩ := (H0.out.below HBW.out) i b hb
      subst hA
      have HPUT := Lib.hid (HP.out.putRaw HBW.out.size (by omega) HON.out HFU.out HTW.out AB b.length cb b hbat rfl (by omega))
      clear hbat hb
      go_wp2_with fail
      refine HPUT.out.mono ?_
      rintro e w2 ⟨p2, q2, pm2, ws2, m2, rfl, hon2, hfu2, hp2, hmg2, hm2⟩
      have HR := Lib.hid (⟨grow_below hm2 HP.out.lt HBW.out.size HBW.out, hp2, hon2, hfu2, hmg2.trans HMG.out⟩ : Below W.heap.size W w2 ∧ Pg1 W.heap.size w2 _ a pm2 _ 0 100 H3 ws2 g m2 ∧ _ ∧ _ ∧ _)
      clear hon2 hfu2 hp2 hmg2 hm2 HPUT hcell
      go_wp2_with fail
      go_roundw
      case rel =>
        obtain ⟨h1, h2, h3, h4, h5⟩ := HR.out
        exact ⟨i + 1, _, _, _, _, by omega, by omega, by simp, h1, h2, h3, h4, h5⟩
      case measure => simp [intOf]; omega
    · have HC := Lib.hid (HP.out.commitRaw HBW.out.size (by omega) HON.out HFU.out HTW.out (by rw [HMG.out]; omega))
      by_cases hiN : i < n0
      · have hiI : (i : Int) < (n0 : Int) := by omega
        have hi2I : ¬ (i : Int) < 9 := by omega
        clear hgo
        go_wp2_with fail
        refine HC.out.mono ?_
        rintro e w5 ⟨rfl, pm5, H5, hm5, hon5, hfu5, hp5⟩
        have HB5 := Lib.hid (grow_below hm5 HP.out.lt HBW.out.size HBW.out)
        have HP5 := Lib.hid (hp5.plant.more (show 2 + 8 * i + 3 ≤ 100 by omega))
        have HON5 := Lib.hid hon5
        have HFU5 := Lib.hid hfu5
        clear hm5 hon5 hfu5 hp5 HC
        go_wp2_with fail
        go_loopw [12] (fun iv wr => RtR2 W n1 a iv wr) (fun iv _ => n1 - (intOf iv).toNat)
        case atStart => exact ⟨0, _, _, _, by omega, rfl, HB5.out, HP5.out, HON5.out, HFU5.out⟩
        case round =>
          obtain ⟨j, K6, pm6, H6, hj, rfl, hb6, hp6, hon6, hfu6⟩ := hrel
          have HB6 := Lib.hid hb6
          have HP6 := Lib.hid hp6
          have HON6 := Lib.hid hon6
          have HFU6 := Lib.hid hfu6
          clear hb6 hp6 hon6 hfu6
          by_cases hlt : j < n1
          · have hjI : (j : Int) < (n1 : Int) := by omega
            obtain ⟨t, ht⟩ : ∃ t, ts[j]? = some t := ⟨_, List.getElem?_eq_getElem (by rw [HN1.out]; exact hlt)⟩
            obtain ⟨ad, hA, x0, x1, x2⟩ := (H1.out.below HB6.out) j t ht
            subst hA
            have HRT := Lib.hid ((HP6.out.below (below_drewN (Below.refl _ wr) 1)).rot (show W.heap.size ≤ wr.drew.heap.size from HB6.out.size) t.1 t.2.1 t.2.2)
            clear ht
            go_wp2_with fail
            refine Ord.region_ord [] [0, 1, 2, 3, 4, 5, 6, 7, 8, 9, 10, 11, 12, 13, 14, 15, 16] (by kernel_rfl) (by kernel_rfl) (by kernel_rfl) (by kernel_rfl) (Ord.ord_all [_, _, _, _, _, _, _, _, _, _, _, _, _, _, _, _, _] rfl (by kernel_rfl) ?_)
            go_wp2_with fail
            refine HRT.out.mono ?_
            rintro e w7 ⟨v, pm7, H7, rfl, hp7, ho7, hf7, hm7⟩
            have HR := Lib.hid (⟨grow_below (w := wr.drew) hm7 HP6.out.lt HB6.out.size (below_drewN HB6.out 1), hp7, ho7.trans HON6.out, hf7.trans HFU6.out⟩ : Below W.heap.size W w7 ∧ Pd1 W.heap.size w7 _ a pm7 _ 0 100 H7 [] ∧ _ ∧ _)
            clear hp7 ho7 hf7 hm7 HRT x0 x1 x2
            go_wp2_with fail
            refine Ord.nx_end ?_
            go_wp2_with fail
            go_roundw
            case rel =>
              obtain ⟨h1, h2, h3, h4⟩ := HR.out
              exact ⟨j + 1, _, _, _, by omega, by simp, h1, h2, h3, h4⟩
            case measure => simp [intOf]; omega
          · obtain rfl : j = n1 := by omega
            have hjI : ¬ (j : Int) < (j : Int) := by omega
            have HOP := Lib.hid (HP6.out.openedRaw HB6.out.size (by omega) HON6.out (HT.out.below HB6.out (Nat.le_refl _)) (by omega))
            go_wp2_with fail
            refine HOP.out.mono ?_
            rintro e w7 ⟨hb7, rfl | ⟨g7, m7, rfl, hp7, hpg7, hgn7, hr7, hr7'⟩⟩
            · have HB7 := Lib.hid (HB6.out.trans (hb7.mono HB6.out.size))
              clear hb7
              go_wp2_with fail
              go_ret
              exact ⟨rfl, HB7.out⟩
            · rw [b100] at hpg7
              have HB7 := Lib.hid (HB6.out.trans (hb7.mono HB6.out.size))
              have HP7 := Lib.hid hp7
              have HGN := Lib.hid hgn7
              obtain ⟨ro, hro⟩ : ∃ ro, m7.root = ro := ⟨_, rfl⟩
              obtain ⟨rm, hrm⟩ : ∃ rm, m7.room m7.pages = rm := ⟨_, rfl⟩
              have hrml : rm ≤ 12 := by rw [← hrm, ← hpg7]; exact room_le _ _
              have hq1 := hp7.root
              have hq2 := hp7.room
              rw [hro] at hq1 hr7 hr7'
              rw [hrm] at hq2
              have HQ1 := Lib.hid hq1
              have HQ2 := Lib.hid hq2
              have hr1 : ¬ ro < -1 := by omega
              have hr2 : ¬ (12 : Int) ≤ ro := by omega
              have hr3 : ¬ (rm : Int) < 0 := by omega
              have hr4 : ¬ (12 : Int) < (rm : Int) := by omega
              clear hb7 hp7 hpg7 hgn7 hr7 hr7' hro hrm hq1 hq2
              go_wp2_with fail
              refine HQ1.out.mono ?_
              rintro e _ ⟨rfl, rfl⟩
              go_wp2_with fail
              refine HQ1.out.mono ?_
              rintro e _ ⟨rfl, rfl⟩
              go_wp2_with fail
              refine HQ2.out.mono ?_
              rintro e _ ⟨rfl, rfl⟩
              go_wp2_with fail
              refine HQ2.out.mono ?_
              rintro e _ ⟨rfl, rfl⟩
              clear HQ1 HQ2
              go_wp2_with fail
              go_loopw [13] (fun iv wr => RtR3 W a g7 pm6 H6 m7 iv wr) (fun iv _ => (14 - intOf iv).toNat)
              case atStart => exact ⟨-1, _, by omega, by omega, rfl, HB7.out, HP7.out⟩
              case round =>
                obtain ⟨y, K8, hy1, hy2, rfl, hb8, hp8⟩ := hrel
                have HB8 := Lib.hid hb8
                have HP8 := Lib.hid hp8
                clear hb8 hp8
                by_cases hlt : y < 14
                · have HRD := Lib.hid (HP8.out.readRaw HB8.out.size (by omega) HON6.out (HT.out.below HB8.out (Nat.le_refl _)) y)
                  go_wp2_with fail
                  refine HRD.out.mono ?_
                  rintro e w9 ⟨hb9, A9, k9, c9, z9, rfl, hz⟩
                  have HR := Lib.hid (⟨HB8.out.trans (hb9.mono HB8.out.size), HP8.out.below hb9⟩ : Below W.heap.size W w9 ∧ Pg1 W.heap.size w9 _ a pm6 100 0 100 H6 [] g7 m7)
                  clear hb9 HRD
                  rcases hz with ⟨rfl, hk⟩ | ⟨rfl, rfl⟩ | ⟨rfl, rfl⟩
                  · have hkI : ¬ (500 : Int) < (k9 : Int) := by omega
                    go_wp2_with fail
                    go_roundw
                    case rel =>
                      obtain ⟨h1, h2⟩ := HR.out
                      exact ⟨y + 1, _, by omega, by omega, by simp, h1, h2⟩
                    case measure => simp [intOf]; omega
                  · go_wp2_with fail
                    go_roundw
                    case rel =>
                      obtain ⟨h1, h2⟩ := HR.out
                      exact ⟨y + 1, _, by omega, by omega, by simp, h1, h2⟩
                    case measure => simp [intOf]; omega
                  · go_wp2_with fail
                    go_roundw
                    case rel =>
                      obtain ⟨h1, h2⟩ := HR.out
                      exact ⟨y + 1, _, by omega, by omega, by simp, h1, h2⟩
                    case measure => simp [intOf]; omega
                · obtain rfl : y = 14 := by omega
                  have hcv := fun (w : World) (C : Array Value) (n c : Nat) => Lib.run_convert_bytes_const (P := Tryd.prog) w 38 5 C n c Tryd.underlying38 Tryd.underlying5
                  have hba := below_al' (w := wr) (.cells #[.int .u8 109, .int .u8 111, .int .u8 114, .int .u8 101] 5 (4, 5))
                  have HBA := Lib.hid (HB8.out.trans (hba.mono HB8.out.size))
                  have HPA := Lib.hid (HP8.out.below hba)
                  have HPT := Lib.hid (HPA.out.putRaw HBA.out.size (by omega) HON6.out HFU6.out (HT.out.below HBA.out (Nat.le_refl _)) (some ⟨wr.heap.size, 0, none⟩) 4 4 bMore (BAt.new _ _ _ _ (by rfl)) rfl (by omega))
                  clear hba
                  go_wp2_with fail
                  refine HPT.out.mono ?_
                  rintro e wb ⟨pb, qb, pmb, wsb, mb, rfl, honb, hfub, hpb, hmgb, hmb⟩
                  have HBB := Lib.hid (grow_below hmb HPA.out.lt HBA.out.size HBA.out)
                  have HCB := Lib.hid (hpb.commitRaw HBB.out.size (by omega) honb hfub (HT.out.below HBB.out (Nat.le_refl _)) (by rw [hmgb]; exact HGN.out))
                  have HLB := Lib.hid hpb.lt
                  clear honb hfub hpb hmgb hmb HPT hcv
                  go_wp2_with fail
                  refine HCB.out.mono ?_
                  rintro e wc ⟨rfl, pmc, Hc, hmc, _, _, _⟩
                  have HBC := Lib.hid (grow_below hmc HLB.out HBB.out.size HBB.out)
                  clear hmc HCB
                  go_wp2_with fail
                  go_ret
                  exact ⟨rfl, HBC.out⟩
      · have hiI : ¬ (i : Int) < (n0 : Int) := by omega
        clear hgo
        go_wp2_with fail
        refine HC.out.mono ?_
        rintro e w5 ⟨rfl, pm5, H5, hm5, hon5, hfu5, hp5⟩
        have HB5 := Lib.hid (grow_below hm5 HP.out.lt HBW.out.size HBW.out)
        have HP5 := Lib.hid (hp5.plant.more (show 2 + 8 * i + 3 ≤ 100 by omega))
        have HON5 := Lib.hid hon5
        have HFU5 := Lib.hid hfu5
        clear hm5 hon5 hfu5 hp5 HC
        go_wp2_with fail
        go_loopw [12] (fun iv wr => RtR2 W n1 a iv wr) (fun iv _ => n1 - (intOf iv).toNat)
        case atStart => exact ⟨0, _, _, _, by omega, rfl, HB5.out, HP5.out, HON5.out, HFU5.out⟩
        case round =>
          obtain ⟨j, K6, pm6, H6, hj, rfl, hb6, hp6, hon6, hfu6⟩ := hrel
          have HB6 := Lib.hid hb6
          have HP6 := Lib.hid hp6
          have HON6 := Lib.hid hon6
          have HFU6 := Lib.hid hfu6
          clear hb6 hp6 hon6 hfu6
          by_cases hlt : j < n1
          · have hjI : (j : Int) < (n1 : Int) := by omega
            obtain ⟨t, ht⟩ : ∃ t, ts[j]? = some t := ⟨_, List.getElem?_eq_getElem (by rw [HN1.out]; exact hlt)⟩
            obtain ⟨ad, hA, x0, x1, x2⟩ := (H1.out.below HB6.out) j t ht
            subst hA
            have HRT := Lib.hid ((HP6.out.below (below_drewN (Below.refl _ wr) 1)).rot (show W.heap.size ≤ wr.drew.heap.size from HB6.out.size) t.1 t.2.1 t.2.2)
            clear ht
            go_wp2_with fail
            refine Ord.region_ord [] [0, 1, 2, 3, 4, 5, 6, 7, 8, 9, 10, 11, 12, 13, 14, 15, 16] (by kernel_rfl) (by kernel_rfl) (by kernel_rfl) (by kernel_rfl) (Ord.ord_all [_, _, _, _, _, _, _, _, _, _, _, _, _, _, _, _, _] rfl (by kernel_rfl) ?_)
            go_wp2_with fail
            refine HRT.out.mono ?_
            rintro e w7 ⟨v, pm7, H7, rfl, hp7, ho7, hf7, hm7⟩
            have HR := Lib.hid (⟨grow_below (w := wr.drew) hm7 HP6.out.lt HB6.out.size (below_drewN HB6.out 1), hp7, ho7.trans HON6.out, hf7.trans HFU6.out⟩ : Below W.heap.size W w7 ∧ Pd1 W.heap.size w7 _ a pm7 _ 0 100 H7 [] ∧ _ ∧ _)
            clear hp7 ho7 hf7 hm7 HRT x0 x1 x2
            go_wp2_with fail
            refine Ord.nx_end ?_
            go_wp2_with fail
            go_roundw
            case rel =>
              obtain ⟨h1, h2, h3, h4⟩ := HR.out
              exact ⟨j + 1, _, _, _, by omega, by simp, h1, h2, h3, h4⟩
            case measure => simp [intOf]; omega
          · obtain rfl : j = n1 := by omega
            have hjI : ¬ (j : Int) < (j : Int) := by omega
            have HOP := Lib.hid (HP6.out.openedRaw HB6.out.size (by omega) HON6.out (HT.out.below HB6.out (Nat.le_refl _)) (by omega))
            go_wp2_with fail
            refine HOP.out.mono ?_
            rintro e w7 ⟨hb7, rfl | ⟨g7, m7, rfl, hp7, hpg7, hgn7, hr7, hr7'⟩⟩
            · have HB7 := Lib.hid (HB6.out.trans (hb7.mono HB6.out.size))
              clear hb7
              go_wp2_with fail
              go_ret
              exact ⟨rfl, HB7.out⟩
            · rw [b100] at hpg7
              have HB7 := Lib.hid (HB6.out.trans (hb7.mono HB6.out.size))
              have HP7 := Lib.hid hp7
              have HGN := Lib.hid hgn7
              obtain ⟨ro, hro⟩ : ∃ ro, m7.root = ro := ⟨_, rfl⟩
              obtain ⟨rm, hrm⟩ : ∃ rm, m7.room m7.pages = rm := ⟨_, rfl⟩
              have hrml : rm ≤ 12 := by rw [← hrm, ← hpg7]; exact room_le _ _
              have hq1 := hp7.root
              have hq2 := hp7.room
              rw [hro] at hq1 hr7 hr7'
              rw [hrm] at hq2
              have HQ1 := Lib.hid hq1
              have HQ2 := Lib.hid hq2
              have hr1 : ¬ ro < -1 := by omega
              have hr2 : ¬ (12 : Int) ≤ ro := by omega
              have hr3 : ¬ (rm : Int) < 0 := by omega
              have hr4 : ¬ (12 : Int) < (rm : Int) := by omega
              clear hb7 hp7 hpg7 hgn7 hr7 hr7' hro hrm hq1 hq2
              go_wp2_with fail
              refine HQ1.out.mono ?_
              rintro e _ ⟨rfl, rfl⟩
              go_wp2_with fail
              refine HQ1.out.mono ?_
              rintro e _ ⟨rfl, rfl⟩
              go_wp2_with fail
              refine HQ2.out.mono ?_
              rintro e _ ⟨rfl, rfl⟩
              go_wp2_with fail
              refine HQ2.out.mono ?_
              rintro e _ ⟨rfl, rfl⟩
              clear HQ1 HQ2
              go_wp2_with fail
              go_loopw [13] (fun iv wr => RtR3 W a g7 pm6 H6 m7 iv wr) (fun iv _ => (14 - intOf iv).toNat)
              case atStart => exact ⟨-1, _, by omega, by omega, rfl, HB7.out, HP7.out⟩
              case round =>
                obtain ⟨y, K8, hy1, hy2, rfl, hb8, hp8⟩ := hrel
                have HB8 := Lib.hid hb8
                have HP8 := Lib.hid hp8
                clear hb8 hp8
                by_cases hlt : y < 14
                · have HRD := Lib.hid (HP8.out.readRaw HB8.out.size (by omega) HON6.out (HT.out.below HB8.out (Nat.le_refl _)) y)
                  go_wp2_with fail
                  refine HRD.out.mono ?_
                  rintro e w9 ⟨hb9, A9, k9, c9, z9, rfl, hz⟩
                  have HR := Lib.hid (⟨HB8.out.trans (hb9.mono HB8.out.size), HP8.out.below hb9⟩ : Below W.heap.size W w9 ∧ Pg1 W.heap.size w9 _ a pm6 100 0 100 H6 [] g7 m7)
                  clear hb9 HRD
                  rcases hz with ⟨rfl, hk⟩ | ⟨rfl, rfl⟩ | ⟨rfl, rfl⟩
                  · have hkI : ¬ (500 : Int) < (k9 : Int) := by omega
                    go_wp2_with fail
                    go_roundw
                    case rel =>
                      obtain ⟨h1, h2⟩ := HR.out
                      exact ⟨y + 1, _, by omega, by omega, by simp, h1, h2⟩
                    case measure => simp [intOf]; omega
                  · go_wp2_with fail
                    go_roundw
                    case rel =>
                      obtain ⟨h1, h2⟩ := HR.out
                      exact ⟨y + 1, _, by omega, by omega, by simp, h1, h2⟩
                    case measure => simp [intOf]; omega
                  · go_wp2_with fail
                    go_roundw
                    case rel =>
                      obtain ⟨h1, h2⟩ := HR.out
                      exact ⟨y + 1, _, by omega, by omega, by simp, h1, h2⟩
                    case measure => simp [intOf]; omega
                · obtain rfl : y = 14 := by omega
                  have hcv := fun (w : World) (C : Array Value) (n c : Nat) => Lib.run_convert_bytes_const (P := Tryd.prog) w 38 5 C n c Tryd.underlying38 Tryd.underlying5
                  have hba := below_al' (w := wr) (.cells #[.int .u8 109, .int .u8 111, .int .u8 114, .int .u8 101] 5 (4, 5))
                  have HBA := Lib.hid (HB8.out.trans (hba.mono HB8.out.size))
                  have HPA := Lib.hid (HP8.out.below hba)
                  have HPT := Lib.hid (HPA.out.putRaw HBA.out.size (by omega) HON6.out HFU6.out (HT.out.below HBA.out (Nat.le_refl _)) (some ⟨wr.heap.size, 0, none⟩) 4 4 bMore (BAt.new _ _ _ _ (by rfl)) rfl (by omega))
                  clear hba
                  go_wp2_with fail
                  refine HPT.out.mono ?_
                  rintro e wb ⟨pb, qb, pmb, wsb, mb, rfl, honb, hfub, hpb, hmgb, hmb⟩
                  have HBB := Lib.hid (grow_below hmb HPA.out.lt HBA.out.size HBA.out)
                  have HCB := Lib.hid (hpb.commitRaw HBB.out.size (by omega) honb hfub (HT.out.below HBB.out (Nat.le_refl _)) (by rw [hmgb]; exact HGN.out))
                  have HLB := Lib.hid hpb.lt
                  clear honb hfub hpb hmgb hmb HPT hcv
                  go_wp2_with fail
                  refine HCB.out.mono ?_
                  rintro e wc ⟨rfl, pmc, Hc, hmc, _, _, _⟩
                  have HBC := Lib.hid (grow_below hmc HLB.out HBB.out.size HBB.out)
                  clear hmc HCB
                  go_wp2_with fail
                  go_ret
                  exact ⟨rfl, HBC.out⟩
end Go.Proofs.YtookhagpgkefpaaDoor.Pag
