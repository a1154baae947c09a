/- The law 'PagerFormats'. -/
import Derived.Test.YtookhagpgkefpaaDoorPagShown
import Derived.Test.YtookhagpgkefpaaDoorFold18
import Derived.Deep.CutRange
import Derived.BigQuiet
namespace Go.Proofs.YtookhagpgkefpaaDoor.Pag
open Go Go.RowKit Mem Pl Disk Crc _root_.Go.Proofs.YtookhagpgkefpaaDoor.Frame
theorem fm_strTy : Tryd.prog.underlying 9 = some .string := Tryd.underlying9
def FmR1 (W : World) (l : List (List UInt8)) (a g : Nat) (nv iv : Value) (wr : World) : Prop :=
  ∃ (i : Nat) (K : Nat → Prop) (pm : PM) (Hs : List (List UInt8)) (m : PgM) (T : Nat → List UInt8), i ≤ l.length ∧ i ≤ 9 ∧ iv = .int .i64 (i : Int) ∧ nv = .int .i64 (fitN l i : Int) ∧ Below W.heap.size W wr ∧ Pg1 W.heap.size wr K a pm (2 + 11 * i) 0 210 Hs [] g m ∧ Inv 210 Hs [] m T T ∧
    pm.off = false ∧ pm.fuse = none ∧ m.pages = 26 ∧ m.gen = 1 + i ∧ m.root = (fitN l i : Int) - 1 ∧ FirstC m (fitN l i) ∧ (∀ p, hasB m.was p = decide (p < fitN l i)) ∧ TextsOf l i T
def FmR2 (W : World) (l : List (List UInt8)) (k a g n : Nat) (pm : PM) (Hs : List (List UInt8)) (ws : Ws) (m : PgM) (kv iv : Value) (wr : World) : Prop :=
  ∃ (i : Nat) (K : Nat → Prop), i ≤ k ∧ iv = .int .i64 (i : Int) ∧ kv = .int .i64 (fitN l i : Int) ∧ Below W.heap.size W wr ∧ Pg1 W.heap.size wr K a pm n 0 210 Hs ws g m
theorem b210 : min ((210 - 2) / 8) 384 = 26 := by decide
set_option maxRecDepth 100000 in
set_option maxHeartbeats 16000000 in
theorem lawFormats (A0 KA : Option Addr) (n0 kn c0 kc : Nat) (l0 : List (List UInt8)) (z : Int) (keep : List Int) (W : World) (ht : TabB W.heap.size W) (h0 : RowsAt W A0 l0) (hn0 : l0.length = n0) (_hm0 : n0 ≤ 10000000)
    (hL0 : ∀ b ∈ l0, b.length ≤ 100000000) (hz : -9223372036854775808 ≤ z ∧ z < 9223372036854775808) (hk : IAt W KA keep) (hkl : keep.length = kn) (hkm : kn ≤ 9223372036854775807) (hkW : keep ≠ [] → ∀ ad, KA = some ad → ad.block < W.heap.size) :
    Calls Tryd.prog 5 #[.slice A0 n0 c0, .int .i64 z, .slice KA kn kc] W fun e W' => e = .returned (.bool true) ∧ Below W.heap.size W W' := by
  have HT := Lib.hid ht
  have H0 := Lib.hid h0
  have HN0 := Lib.hid hn0
  have HL0 := Lib.hid hL0
  have HK := Lib.hid hk
  have HKL := Lib.hid hkl
  have HKW := Lib.hid hkW
  have HZ := Lib.hid hz
  have HSH := Lib.hid (shown_any W ht)
  clear ht h0 hn0 hL0 hk hkl hkW hz
  go_enter Tryd.func5, Tryd.ntmps5
  go_wp2_with fail
  refine HSH.out.mono ?_
  rintro e w0 ⟨rfl, hb0⟩
  have HB0 := Lib.hid hb0
  have HMD := Lib.hid (made_one (w := w0) (B := W.heap.size) 210 (by omega) (by omega) hb0.size rfl)
  clear hb0 HSH
  go_wp2_with fail
  refine HMD.out.mono ?_
  rintro e w1 ⟨a, rfl, hp, hb⟩
  have HB1 := Lib.hid (HB0.out.trans (hb.mono HB0.out.size))
  have HT1 := Lib.hid (HT.out.below HB1.out (Nat.le_refl _))
  have HP1 := Lib.hid hp
  have HFM := Lib.hid (hp.formatNew HB1.out.size (by omega) rfl rfl HT1.out (by omega))
  clear hp hb HMD
  go_wp2_with fail
  refine HFM.out.mono ?_
  rintro e w3 ⟨pm3, H3, rfl, hon3, hfu3, hp3, hi3, hm3⟩
  rw [b210] at hi3
  have HP3 := Lib.hid hp3
  have HI3 := Lib.hid hi3
  have HB3 := Lib.hid (grow_below hm3 HP1.out.lt HB1.out.size HB1.out)
  have HT3 := Lib.hid (HT.out.below HB3.out (Nat.le_refl _))
  have HON3 := Lib.hid hon3
  have HFU3 := Lib.hid hfu3
  have HOQ := Lib.hid (hp3.opened hi3 HB3.out.size (by omega) hon3 HT3.out rfl)
  clear hp3 hi3 hm3 hon3 hfu3 HFM
  go_wp2_with fail
  refine HOQ.out.mono ?_
  rintro e w4 ⟨g, rfl, hp4, hi4, hb4⟩
  have HI4 : Hid (Inv 210 H3 [] (pgNew 26) noT noT) := Lib.hid hi4
  have HP4 : Hid (Pg1 W.heap.size w4 _ a pm3 _ 0 210 H3 [] g (pgNew 26)) := Lib.hid hp4
  have HB4 := Lib.hid (HB3.out.trans (hb4.mono HB3.out.size))
  clear hp4 hi4 hb4 HOQ
  go_wp2_with fail
  go_loopw [13, 14] (fun nv iv wr => FmR1 W l0 a g nv iv wr) (fun _ iv _ => 9 - (intOf iv).toNat)
  case atStart => exact ⟨0, _, _, _, _, _, by omega, by omega, rfl, by unfold fitN; simp, HB4.out, HP4.out, HI4.out, HON3.out, HFU3.out, rfl, rfl, by unfold fitN; rfl, ⟨fun p => by rw [show (pgNew 26).use = no48 from rfl, hasB_no48]; rfl, fun p hp => by rw [show (pgNew 26).was = no48 from rfl, hasB_no48] at hp; cases hp⟩, fun p => by rw [show (pgNew 26).was = no48 from rfl, hasB_no48]; unfold fitN; rfl, fun j b hj => by omega⟩
  case round =>
    obtain ⟨i, K, pm, Hs, m, T, hi, hi9, rfl, rfl, hbw, hp, hv, hon, hfu, hmp, hmg, hmr, hfc, hws, htx⟩ := hrel
    have HBW := Lib.hid hbw
    have HP := Lib.hid hp
    have HV := Lib.hid hv
    have HON := Lib.hid hon
    have HFU := Lib.hid hfu
    have HMP := Lib.hid hmp
    have HMG := Lib.hid hmg
    have HMR := Lib.hid hmr
    have HFC := Lib.hid hfc
    have HWS := Lib.hid hws
    have HTX := Lib.hid htx
    have HTW := Lib.hid (HT.out.below hbw (Nat.le_refl _))
    have hfl := fitN_le l0 i
    clear hbw hp hv hon hfu hmp hmg hmr hfc hws htx
    by_cases hgo : i < n0 ∧ i < 9
    · obtain ⟨hlt, hlt2⟩ := hgo
      have hiI : (i : Int) < (n0 : Int) := by omega
      have hi2I : (i : Int) < 9 := by omega
      obtain ⟨b, hb⟩ : ∃ b, l0[i]? = some b := ⟨_, List.getElem?_eq_getElem (by rw [HN0.out]; exact hlt)⟩
      have hbl := HL0.out b (List.mem_of_getElem? hb)
      obtain ⟨ad, AB, cb, hA, hcell, hbat⟩ := (H0.out.below HBW.out) i b hb
      subst hA
      have hput := HP.out.putN HV.out HBW.out.size (by omega) HON.out HFU.out HTW.out AB b.length cb b hbat rfl (by omega)
      have hnx := fitN_next hb
      have HNB := Lib.hid hb
      clear hbat hb
      by_cases h5 : b.length ≤ 500
      · obtain ⟨hpe, hpf⟩ := HFC.out.put (T := T) (b := b) (by rw [HMP.out]; omega) HV.out.ul HV.out.n384 h5
        rw [hpe] at hput
        rw [if_pos h5] at hnx
        have HTX2 := Lib.hid (HTX.out.put HNB.out)
        have HFC2 := Lib.hid (show FirstC { m with use := setB m.use (fitN l0 i) true } (fitN l0 (i + 1)) by rw [hnx]; exact hpf)
        have hput' : Calls _ _ _ _ _ := hput
        clear hput hpe hpf
        obtain ⟨m2, hm2⟩ : ∃ m2, ({ m with use := setB m.use (fitN l0 i) true } : PgM) = m2 := ⟨_, rfl⟩
        obtain ⟨T2, hT2⟩ : ∃ T2, (fun q => if q = fitN l0 i then b else T q) = T2 := ⟨_, rfl⟩
        simp only [hm2, hT2] at hput' HFC2 HTX2
        have HPG2 : Hid (m2.pages = 26 ∧ m2.gen = 1 + i) := Lib.hid (by rw [← hm2]; exact ⟨HMP.out, HMG.out⟩)
        have HPUT := Lib.hid hput'
        clear hput' hm2 hT2
        go_wp2_with fail
        refine HPUT.out.mono ?_
        rintro e w2 ⟨rfl, pm2, ws2, hm2, hon2, hfu2, hp2, hv2⟩
        have HB2 := Lib.hid (grow_below hm2 HP.out.lt HBW.out.size HBW.out)
        have HL2 := Lib.hid hp2.lt
        obtain ⟨c, hc⟩ : ∃ c, fitN l0 (i + 1) = c := ⟨_, rfl⟩
        have hci : fitN l0 i = c - 1 := by rw [hc] at hnx; omega
        obtain ⟨ro, hro⟩ : ∃ ro : Int, (c : Int) - 1 = ro := ⟨_, rfl⟩
        have hcle : c ≤ i + 1 := by rw [← hc]; exact fitN_le l0 (i + 1)
        have hmay : m2.rootMay ro = true := by
          have hfu := HFC2.out.use
          rw [← hro]
          unfold PgM.rootMay PgM.inUse
          rw [HPG2.out.1, hfu, hc]
          simp
          omega
        have HCM := Lib.hid (hp2.commitN hv2 HB2.out.size (by omega) hon2 hfu2 (HT.out.below HB2.out (Nat.le_refl _)) (by rw [HPG2.out.2]; omega) ro hmay)
        have HRO := Lib.hid hro
        have HC := Lib.hid hc
        have hcc : (fitN l0 i : Int) + 1 = (c : Int) := by rw [hc] at hnx; omega
        have hcr : (c : Int) - 1 = ro := hro
        clear hm2 hon2 hfu2 hp2 hv2 hmay HPUT hcell hc hci hnx hro
        go_wp2_with fail
        refine HCM.out.mono ?_
        rintro e w3 ⟨rfl, pm3', H3', hm3, hon3, hfu3, hp3, hv3⟩
        have HR := Lib.hid (⟨grow_below hm3 HL2.out HB2.out.size HB2.out, hp3, hv3, hon3, hfu3⟩ : Below W.heap.size W w3 ∧ Pg1 W.heap.size w3 _ a pm3' _ 0 210 H3' [] g (m2.commit ro) ∧ Inv 210 H3' [] (m2.commit ro) T2 T2 ∧ _ ∧ _)
        clear hm3 hon3 hfu3 hp3 hv3 HCM
        go_wp2_with fail
        go_roundw
        case rel =>
          obtain ⟨h1, h2, h3, h4, h5⟩ := HR.out
          exact ⟨i + 1, _, _, _, _, _, by rw [HN0.out]; omega, by omega, by simp, by rw [HC.out], h1, h2.more (by omega), h3, h4, h5, HPG2.out.1, by show m2.gen + 1 = _; rw [HPG2.out.2]; omega, by show ro = _; rw [HC.out]; exact HRO.out.symm, ⟨fun p => HFC2.out.use p, fun p hp => by have h6 := HFC2.out.use p; rw [show hasB m2.use p = true from hp] at h6; exact of_decide_eq_true h6.symm⟩, fun p => HFC2.out.use p, HTX2.out⟩
        case measure => simp [intOf]; omega
      · rw [putM_long (by omega)] at hput
        rw [if_neg h5] at hnx
        have HTX2 := Lib.hid (HTX.out.skip HNB.out (by omega))
        have HFC2 := Lib.hid (show FirstC m (fitN l0 (i + 1)) by rw [hnx]; exact HFC.out)
        have HPG2 : Hid (m.pages = 26 ∧ m.gen = 1 + i) := Lib.hid ⟨HMP.out, HMG.out⟩
        have HPUT := Lib.hid hput
        clear hput
        go_wp2_with fail
        refine HPUT.out.mono ?_
        rintro e w2 ⟨rfl, pm2, ws2, hm2, hon2, hfu2, hp2, hv2⟩
        have HB2 := Lib.hid (grow_below hm2 HP.out.lt HBW.out.size HBW.out)
        have HL2 := Lib.hid hp2.lt
        obtain ⟨c, hc⟩ : ∃ c, fitN l0 (i + 1) = c := ⟨_, rfl⟩
        have hci : fitN l0 i = c := by rw [hc] at hnx; omega
        obtain ⟨ro, hro⟩ : ∃ ro : Int, (c : Int) - 1 = ro := ⟨_, rfl⟩
        have hcle : c ≤ i + 1 := by rw [← hc]; exact fitN_le l0 (i + 1)
        have hmay : m.rootMay ro = true := by
          have hfu := HFC2.out.use
          rw [← hro]
          unfold PgM.rootMay PgM.inUse
          rw [HPG2.out.1, hfu, hc]
          simp
          omega
        have HCM := Lib.hid (hp2.commitN hv2 HB2.out.size (by omega) hon2 hfu2 (HT.out.below HB2.out (Nat.le_refl _)) (by rw [HPG2.out.2]; omega) ro hmay)
        have HRO := Lib.hid hro
        have HC := Lib.hid hc
        rw [hci] at *
        have hcr : (c : Int) - 1 = ro := hro
        clear hm2 hon2 hfu2 hp2 hv2 hmay HPUT hcell hc hci hnx hro
        go_wp2_with fail
        refine HCM.out.mono ?_
        rintro e w3 ⟨rfl, pm3', H3', hm3, hon3, hfu3, hp3, hv3⟩
        have HR := Lib.hid (⟨grow_below hm3 HL2.out HB2.out.size HB2.out, hp3, hv3, hon3, hfu3⟩ : Below W.heap.size W w3 ∧ Pg1 W.heap.size w3 _ a pm3' _ 0 210 H3' [] g (m.commit ro) ∧ Inv 210 H3' [] (m.commit ro) T T ∧ _ ∧ _)
        clear hm3 hon3 hfu3 hp3 hv3 HCM
        go_wp2_with fail
        go_roundw
        case rel =>
          obtain ⟨h1, h2, h3, h4, h5⟩ := HR.out
          exact ⟨i + 1, _, _, _, _, _, by rw [HN0.out]; omega, by omega, by simp, by rw [HC.out], h1, h2.more (by omega), h3, h4, h5, HPG2.out.1, by show m.gen + 1 = _; rw [HPG2.out.2]; omega, by show ro = _; rw [HC.out]; exact HRO.out.symm, ⟨fun p => HFC2.out.use p, fun p hp => by have h6 := HFC2.out.use p; rw [show hasB m.use p = true from hp] at h6; exact of_decide_eq_true h6.symm⟩, fun p => HFC2.out.use p, HTX2.out⟩
        case measure => simp [intOf]; omega
    · by_cases hiN : i < n0
      · have hiI : (i : Int) < (n0 : Int) := by omega
        have hi2I : ¬ (i : Int) < 9 := by omega
        clear hgo
        obtain ⟨c, hc⟩ : ∃ c, fitN l0 i = c := ⟨_, rfl⟩
        rw [hc] at hfl HMR HFC HWS ⊢
        have HC := Lib.hid hc
        clear hc
        go_upto_if 87 with fail
        obtain ⟨w0', rfl⟩ : ∃ w0', w0' = wr := ⟨_, rfl⟩
        go_cut [1] from 87 to 90 (fun v wc => ∃ q : Nat, q < 9223372036854775808 ∧ v = .int .i64 (q : Int) ∧ wc = w0')
        case first =>
          obtain ⟨hz1, hz2⟩ := HZ.out
          by_cases hz0 : z < 0
          · have hw1 : IntKind.i64.wrap (z + 1) = z + 1 := IntWalk.i64_in _ (by omega)
            have hw2 : IntKind.i64.wrap (-(z + 1)) = -(z + 1) := IntWalk.i64_in _ (by omega)
            go_wp2_with fail
            go_meet
            exact ⟨(-(z + 1)).toNat, by omega, by congr 1; omega, rfl⟩
          · go_wp2_with fail
            go_meet
            exact ⟨z.toNat, by omega, by congr 1; omega, rfl⟩
        case rest =>
          obtain ⟨q, hq, rfl, rfl⟩ := hcut
          obtain ⟨r, hr⟩ : ∃ r, q % 4 = r := ⟨_, rfl⟩
          have hrI : (q : Int) % 4 = (r : Int) := by omega
          have HFS := Lib.hid (HP.out.setFuse HBW.out.size (r : Int) (by omega))
          go_wp2_with fail
          refine HFS.out.mono ?_
          rintro e w2 ⟨rfl, hp2, ho2, hm2⟩
          have HB2 := Lib.hid (grow_below hm2 HP.out.lt HBW.out.size HBW.out)
          have HFT := Lib.hid (hp2.plant.format HV.out HB2.out.size (by omega) (ho2.trans HON.out) (HT.out.below HB2.out (Nat.le_refl _)) (by rw [HMG.out]; omega))
          have HL2 := Lib.hid hp2.lt
          clear hp2 ho2 hm2 HFS hrI hr
          go_wp2_with fail
          refine HFT.out.mono ?_
          rintro e w3 ⟨pmf, Hf, wsf, hmf, hpf, ⟨rfl, honf, rfl, hvf⟩ | ⟨rfl, hoff, hvf⟩⟩
          · have HBF := Lib.hid (grow_below hmf HL2.out HB2.out.size HB2.out)
            have HPF := Lib.hid hpf
            have HVF := Lib.hid hvf
            clear hmf hpf hvf honf HFT
            have HBT := Lib.hid (HPF.out.boot HBF.out.size (by omega) KA kn kc keep (HK.out.below HBF.out) HKL.out (fun hne ad e hKd => by have h1 := HKW.out hne ad e; have h2 := (HPF.out.lt _ hKd).1; omega) hkm)
            go_wp2_with fail
            refine HBT.out.mono ?_
            rintro e w7 ⟨pm7, vs7, rfl, hon7, hfu7, hsub, hpd7, hm7⟩
            have HB7 := Lib.hid (grow_below hm7 HPF.out.lt HBF.out.size HBF.out)
            have HON7 := Lib.hid hon7
            have HPD7 := Lib.hid hpd7
            have HV7 : Hid (Inv 210 (setAll vs7 Hf) [] (fmtM m) T T) := Lib.hid (by rw [List.sublist_nil.1 hsub]; exact HVF.out)
            clear hon7 hfu7 hsub hpd7 hm7 HBT
            have HOP := Lib.hid (HPD7.out.opened HV7.out HB7.out.size (by omega) HON7.out (HT.out.below HB7.out (Nat.le_refl _)) (b210.trans HMP.out.symm))
            go_wp2_with fail
            refine HOP.out.mono ?_
            rintro e w8 ⟨g8, rfl, hp8, hv8, hb8⟩
            have HB8 := Lib.hid (HB7.out.trans (hb8.mono HB7.out.size))
            have hrt := hp8.root
            have hrm := hp8.room
            rw [show (fmtM m).drop.root = -1 from rfl] at hrt
            rw [fmtM_room, HMP.out] at hrm
            have HRT := Lib.hid hrt
            have HRM := Lib.hid hrm
            clear hp8 hv8 hb8 hrt hrm HOP
            go_wp2_with fail
            refine HRT.out.mono ?_
            rintro e _ ⟨rfl, rfl⟩
            go_wp2_with fail
            refine HRM.out.mono ?_
            rintro e _ ⟨rfl, rfl⟩
            go_wp2_with fail
            go_ret
            exact ⟨rfl, HB8.out⟩
          · have HBF := Lib.hid (grow_below hmf HL2.out HB2.out.size HB2.out)
            have HPF := Lib.hid hpf
            have HVF := Lib.hid hvf
            clear hmf hpf hvf hoff HFT
            have HBT := Lib.hid (HPF.out.boot HBF.out.size (by omega) KA kn kc keep (HK.out.below HBF.out) HKL.out (fun hne ad e hKd => by have h1 := HKW.out hne ad e; have h2 := (HPF.out.lt _ hKd).1; omega) hkm)
            go_wp2_with fail
            refine HBT.out.mono ?_
            rintro e w7 ⟨pm7, vs7, rfl, hon7, hfu7, hsub, hpd7, hm7⟩
            have HB7 := Lib.hid (grow_below hm7 HPF.out.lt HBF.out.size HBF.out)
            have HON7 := Lib.hid hon7
            have HPD7 := Lib.hid hpd7
            rcases HVF.out vs7 hsub with hv7 | hv7
            · have HV7 : Hid (Inv 210 (setAll vs7 Hf) [] m.drop T T) := Lib.hid hv7
              clear hon7 hfu7 hsub hpd7 hm7 HBT hv7
              have HOP := Lib.hid (HPD7.out.opened HV7.out HB7.out.size (by omega) HON7.out (HT.out.below HB7.out (Nat.le_refl _)) (b210.trans HMP.out.symm))
              go_wp2_with fail
              refine HOP.out.mono ?_
              rintro e w8 ⟨g8, rfl, hp8, hv8, hb8⟩
              have HB8 := Lib.hid (HB7.out.trans (hb8.mono HB7.out.size))
              have HP8 := Lib.hid hp8
              have HV8 := Lib.hid hv8
              have HUSE : Hid (∀ p, hasB m.drop.drop.use p = decide (p < c)) := Lib.hid HWS.out
              have HPG8 : Hid (m.drop.drop.pages = 26) := Lib.hid HMP.out
              have hrt := hp8.root
              have hrm := hp8.room
              rw [show m.drop.drop.root = m.root from rfl, HMR.out] at hrt
              rw [room_first (m := m.drop.drop) (c := c) (fun p => free_use HUSE.out (show ∀ p, hasB m.drop.drop.was p = decide (p < c) from HWS.out) p), HPG8.out, show ((26 - c : Nat) : Int) = 26 - (c : Int) by omega] at hrm
              have HRT := Lib.hid hrt
              have HRM := Lib.hid hrm
              generalize m.drop.drop = m8 at *
              clear hp8 hv8 hb8 hrt hrm HOP
              by_cases hc0 : c = 0
              · have hc1 : ((c : Int) - 1 == -1) = true := by rw [beq_iff_eq]; omega
                have hc2 : ((26 : Int) - (c : Int) == 26) = true := by rw [beq_iff_eq]; omega
                clear hc0
                go_wp2_with fail
                refine HRT.out.mono ?_
                rintro e _ ⟨rfl, rfl⟩
                go_wp2_with fail
                refine HRM.out.mono ?_
                rintro e _ ⟨rfl, rfl⟩
                go_wp2_with fail
                go_ret
                exact ⟨rfl, HB8.out⟩
              · have hc1 : ((c : Int) - 1 == -1) = false := by rw [beq_eq_false_iff_ne]; omega
                clear hc0
                go_wp2_with fail
                refine HRT.out.mono ?_
                rintro e _ ⟨rfl, rfl⟩
                go_wp2_with fail
                refine HRT.out.mono ?_
                rintro e _ ⟨rfl, rfl⟩
                go_wp2_with fail
                refine HRM.out.mono ?_
                rintro e _ ⟨rfl, rfl⟩
                go_wp2_with fail
                go_loopw [19, 20] (fun kv iv wr => FmR2 W l0 i a g8 _ pm7 _ [] m8 kv iv wr) (fun _ iv _ => i - (intOf iv).toNat)
                case atStart => exact ⟨0, _, by omega, rfl, by unfold fitN; simp, HB8.out, HP8.out⟩
                case round =>
                  obtain ⟨y, K9, hy, rfl, rfl, hb9, hp9⟩ := hrel
                  have HB9 := Lib.hid hb9
                  have HP9 := Lib.hid hp9
                  clear hb9 hp9
                  by_cases hlt : y < i
                  · have hyn : (y : Int) < (n0 : Int) := by rw [HN0.out] at hi; omega
                    have hy9 : (y : Int) < 9 := by omega
                    obtain ⟨b, hb⟩ : ∃ b, l0[y]? = some b := ⟨_, List.getElem?_eq_getElem (by omega)⟩
                    have hnx := fitN_next hb
                    have HNB := Lib.hid hb
                    obtain ⟨ad, AB, cb, hA, hcell, _⟩ := (H0.out.below HB9.out) y b hb
                    subst hA
                    clear hb
                    by_cases h5 : b.length ≤ 500
                    · have h5I : ¬ (500 : Int) < (b.length : Int) := by omega
                      rw [if_pos h5] at hnx
                      obtain ⟨z, hz⟩ : ∃ z, fitN l0 y = z := ⟨_, rfl⟩
                      have hzl : z < c := by rw [← hz, ← HC.out]; exact fitN_lt hlt HNB.out h5
                      have hTz : T z = b := by rw [← hz]; exact HTX.out y b hlt HNB.out h5
                      have hin8 : m8.inUse (z : Int) = true := by unfold PgM.inUse; rw [HPG8.out, HUSE.out]; simp; omega
                      rw [hz] at hnx ⊢
                      have hrd := HP9.out.read HV8.out HB9.out.size (by omega) HON7.out (HT.out.below HB9.out (Nat.le_refl _)) (z : Int)
                      rw [hin8] at hrd
                      simp only [if_true, Int.toNat_natCast, hTz] at hrd
                      have HRD := Lib.hid hrd
                      have HNX := Lib.hid hnx
                      have hzb : z < 1000 := by omega
                      clear hrd hTz hin8 hz hzl hnx
                      go_wp2_with fail
                      refine HRD.out.mono ?_
                      rintro e wa ⟨A, kk, ca, rfl, ho, hba⟩
                      have hkk : b.length = kk := ho.len
                      have HBA := Lib.hid (HB9.out.trans (hba.mono HB9.out.size))
                      have HPA := Lib.hid (HP9.out.below hba)
                      obtain ⟨ad2, AB2, cb2, hA, hcellb, hbat⟩ := (H0.out.below HBA.out) y b HNB.out
                      obtain rfl : ad = ad2 := Option.some.inj hA
                      clear hA
                      have k1 := fun q => run_toString (P := Tryd.prog) (w := wa.drewN q) (ts := 9) Pl.byteTy fm_strTy ca (ho.bat.below (below_drewN (Below.refl _ _) q)) hkk
                      have k2 := fun q => run_toString (P := Tryd.prog) (w := wa.drewN q) (ts := 9) Pl.byteTy fm_strTy cb2 (hbat.below (below_drewN (Below.refl _ _) q)) rfl
                      have k3 := run_toString (P := Tryd.prog) (w := wa) (ts := 9) Pl.byteTy fm_strTy ca ho.bat hkk
                      have k4 := run_toString (P := Tryd.prog) (w := wa) (ts := 9) Pl.byteTy fm_strTy cb2 hbat rfl
                      generalize (⟨b.toArray⟩ : ByteArray) = S at k1 k2 k3 k4
                      clear ho hba hbat hcell HRD hkk
                      go_wp2_with fail
                      go_quiet (fail)
                      clear k1 k2 k3 k4 hcellb
                      go_wp2_with fail
                      go_roundw
                      case rel => exact ⟨y + 1, _, by omega, by simp, by rw [HNX.out]; simp, below_drewN HBA.out nq, HPA.out.below (below_drewN (Below.refl _ _) nq)⟩
                      case measure => simp [intOf]; omega
                    · have h5I : (500 : Int) < (b.length : Int) := by omega
                      rw [if_neg h5] at hnx
                      have HNX := Lib.hid hnx
                      clear hnx
                      go_wp2_with fail
                      go_roundw
                      case rel => exact ⟨y + 1, _, by omega, by simp, by rw [HNX.out]; rfl, HB9.out, HP9.out⟩
                      case measure => simp [intOf]; omega
                  · obtain rfl : y = i := by omega
                    go_wp2_with fail
                    go_ret
                    exact ⟨rfl, HB9.out⟩
            · have HV7 : Hid (Inv 210 (setAll vs7 Hf) [] (fmtM m) T T) := Lib.hid hv7
              clear hon7 hfu7 hsub hpd7 hm7 HBT hv7
              have HOP := Lib.hid (HPD7.out.opened HV7.out HB7.out.size (by omega) HON7.out (HT.out.below HB7.out (Nat.le_refl _)) (b210.trans HMP.out.symm))
              go_wp2_with fail
              refine HOP.out.mono ?_
              rintro e w8 ⟨g8, rfl, hp8, hv8, hb8⟩
              have HB8 := Lib.hid (HB7.out.trans (hb8.mono HB7.out.size))
              have hrt := hp8.root
              have hrm := hp8.room
              rw [show (fmtM m).drop.root = -1 from rfl] at hrt
              rw [fmtM_room, HMP.out] at hrm
              have HRT := Lib.hid hrt
              have HRM := Lib.hid hrm
              clear hp8 hv8 hb8 hrt hrm HOP
              go_wp2_with fail
              refine HRT.out.mono ?_
              rintro e _ ⟨rfl, rfl⟩
              go_wp2_with fail
              refine HRM.out.mono ?_
              rintro e _ ⟨rfl, rfl⟩
              go_wp2_with fail
              go_ret
              exact ⟨rfl, HB8.out⟩
      · have hiI : ¬ (i : Int) < (n0 : Int) := by omega
        clear hgo
        obtain ⟨c, hc⟩ : ∃ c, fitN l0 i = c := ⟨_, rfl⟩
        rw [hc] at hfl HMR HFC HWS ⊢
        have HC := Lib.hid hc
        clear hc
        go_upto_if 87 with fail
        obtain ⟨w0', rfl⟩ : ∃ w0', w0' = wr := ⟨_, rfl⟩
        go_cut [1] from 87 to 90 (fun v wc => ∃ q : Nat, q < 9223372036854775808 ∧ v = .int .i64 (q : Int) ∧ wc = w0')
        case first =>
          obtain ⟨hz1, hz2⟩ := HZ.out
          by_cases hz0 : z < 0
          · have hw1 : IntKind.i64.wrap (z + 1) = z + 1 := IntWalk.i64_in _ (by omega)
            have hw2 : IntKind.i64.wrap (-(z + 1)) = -(z + 1) := IntWalk.i64_in _ (by omega)
            go_wp2_with fail
            go_meet
            exact ⟨(-(z + 1)).toNat, by omega, by congr 1; omega, rfl⟩
          · go_wp2_with fail
            go_meet
            exact ⟨z.toNat, by omega, by congr 1; omega, rfl⟩
        case rest =>
          obtain ⟨q, hq, rfl, rfl⟩ := hcut
          obtain ⟨r, hr⟩ : ∃ r, q % 4 = r := ⟨_, rfl⟩
          have hrI : (q : Int) % 4 = (r : Int) := by omega
          have HFS := Lib.hid (HP.out.setFuse HBW.out.size (r : Int) (by omega))
          go_wp2_with fail
          refine HFS.out.mono ?_
          rintro e w2 ⟨rfl, hp2, ho2, hm2⟩
          have HB2 := Lib.hid (grow_below hm2 HP.out.lt HBW.out.size HBW.out)
          have HFT := Lib.hid (hp2.plant.format HV.out HB2.out.size (by omega) (ho2.trans HON.out) (HT.out.below HB2.out (Nat.le_refl _)) (by rw [HMG.out]; omega))
          have HL2 := Lib.hid hp2.lt
          clear hp2 ho2 hm2 HFS hrI hr
          go_wp2_with fail
          refine HFT.out.mono ?_
          rintro e w3 ⟨pmf, Hf, wsf, hmf, hpf, ⟨rfl, honf, rfl, hvf⟩ | ⟨rfl, hoff, hvf⟩⟩
          · have HBF := Lib.hid (grow_below hmf HL2.out HB2.out.size HB2.out)
            have HPF := Lib.hid hpf
            have HVF := Lib.hid hvf
            clear hmf hpf hvf honf HFT
            have HBT := Lib.hid (HPF.out.boot HBF.out.size (by omega) KA kn kc keep (HK.out.below HBF.out) HKL.out (fun hne ad e hKd => by have h1 := HKW.out hne ad e; have h2 := (HPF.out.lt _ hKd).1; omega) hkm)
            go_wp2_with fail
            refine HBT.out.mono ?_
            rintro e w7 ⟨pm7, vs7, rfl, hon7, hfu7, hsub, hpd7, hm7⟩
            have HB7 := Lib.hid (grow_below hm7 HPF.out.lt HBF.out.size HBF.out)
            have HON7 := Lib.hid hon7
            have HPD7 := Lib.hid hpd7
            have HV7 : Hid (Inv 210 (setAll vs7 Hf) [] (fmtM m) T T) := Lib.hid (by rw [List.sublist_nil.1 hsub]; exact HVF.out)
            clear hon7 hfu7 hsub hpd7 hm7 HBT
            have HOP := Lib.hid (HPD7.out.opened HV7.out HB7.out.size (by omega) HON7.out (HT.out.below HB7.out (Nat.le_refl _)) (b210.trans HMP.out.symm))
            go_wp2_with fail
            refine HOP.out.mono ?_
            rintro e w8 ⟨g8, rfl, hp8, hv8, hb8⟩
            have HB8 := Lib.hid (HB7.out.trans (hb8.mono HB7.out.size))
            have hrt := hp8.root
            have hrm := hp8.room
            rw [show (fmtM m).drop.root = -1 from rfl] at hrt
            rw [fmtM_room, HMP.out] at hrm
            have HRT := Lib.hid hrt
            have HRM := Lib.hid hrm
            clear hp8 hv8 hb8 hrt hrm HOP
            go_wp2_with fail
            refine HRT.out.mono ?_
            rintro e _ ⟨rfl, rfl⟩
            go_wp2_with fail
            refine HRM.out.mono ?_
            rintro e _ ⟨rfl, rfl⟩
            go_wp2_with fail
            go_ret
            exact ⟨rfl, HB8.out⟩
          · have HBF := Lib.hid (grow_below hmf HL2.out HB2.out.size HB2.out)
            have HPF := Lib.hid hpf
            have HVF := Lib.hid hvf
            clear hmf hpf hvf hoff HFT
            have HBT := Lib.hid (HPF.out.boot HBF.out.size (by omega) KA kn kc keep (HK.out.below HBF.out) HKL.out (fun hne ad e hKd => by have h1 := HKW.out hne ad e; have h2 := (HPF.out.lt _ hKd).1; omega) hkm)
            go_wp2_with fail
            refine HBT.out.mono ?_
            rintro e w7 ⟨pm7, vs7, rfl, hon7, hfu7, hsub, hpd7, hm7⟩
            have HB7 := Lib.hid (grow_below hm7 HPF.out.lt HBF.out.size HBF.out)
            have HON7 := Lib.hid hon7
            have HPD7 := Lib.hid hpd7
            rcases HVF.out vs7 hsub with hv7 | hv7
            · have HV7 : Hid (Inv 210 (setAll vs7 Hf) [] m.drop T T) := Lib.hid hv7
              clear hon7 hfu7 hsub hpd7 hm7 HBT hv7
              have HOP := Lib.hid (HPD7.out.opened HV7.out HB7.out.size (by omega) HON7.out (HT.out.below HB7.out (Nat.le_refl _)) (b210.trans HMP.out.symm))
              go_wp2_with fail
              refine HOP.out.mono ?_
              rintro e w8 ⟨g8, rfl, hp8, hv8, hb8⟩
              have HB8 := Lib.hid (HB7.out.trans (hb8.mono HB7.out.size))
              have HP8 := Lib.hid hp8
              have HV8 := Lib.hid hv8
              have HUSE : Hid (∀ p, hasB m.drop.drop.use p = decide (p < c)) := Lib.hid HWS.out
              have HPG8 : Hid (m.drop.drop.pages = 26) := Lib.hid HMP.out
              have hrt := hp8.root
              have hrm := hp8.room
              rw [show m.drop.drop.root = m.root from rfl, HMR.out] at hrt
              rw [room_first (m := m.drop.drop) (c := c) (fun p => free_use HUSE.out (show ∀ p, hasB m.drop.drop.was p = decide (p < c) from HWS.out) p), HPG8.out, show ((26 - c : Nat) : Int) = 26 - (c : Int) by omega] at hrm
              have HRT := Lib.hid hrt
              have HRM := Lib.hid hrm
              generalize m.drop.drop = m8 at *
              clear hp8 hv8 hb8 hrt hrm HOP
              by_cases hc0 : c = 0
              · have hc1 : ((c : Int) - 1 == -1) = true := by rw [beq_iff_eq]; omega
                have hc2 : ((26 : Int) - (c : Int) == 26) = true := by rw [beq_iff_eq]; omega
                clear hc0
                go_wp2_with fail
                refine HRT.out.mono ?_
                rintro e _ ⟨rfl, rfl⟩
                go_wp2_with fail
                refine HRM.out.mono ?_
                rintro e _ ⟨rfl, rfl⟩
                go_wp2_with fail
                go_ret
                exact ⟨rfl, HB8.out⟩
              · have hc1 : ((c : Int) - 1 == -1) = false := by rw [beq_eq_false_iff_ne]; omega
                clear hc0
                go_wp2_with fail
                refine HRT.out.mono ?_
                rintro e _ ⟨rfl, rfl⟩
                go_wp2_with fail
                refine HRT.out.mono ?_
                rintro e _ ⟨rfl, rfl⟩
                go_wp2_with fail
                refine HRM.out.mono ?_
                rintro e _ ⟨rfl, rfl⟩
                go_wp2_with fail
                go_loopw [19, 20] (fun kv iv wr => FmR2 W l0 i a g8 _ pm7 _ [] m8 kv iv wr) (fun _ iv _ => i - (intOf iv).toNat)
                case atStart => exact ⟨0, _, by omega, rfl, by unfold fitN; simp, HB8.out, HP8.out⟩
                case round =>
                  obtain ⟨y, K9, hy, rfl, rfl, hb9, hp9⟩ := hrel
                  have HB9 := Lib.hid hb9
                  have HP9 := Lib.hid hp9
                  clear hb9 hp9
                  by_cases hlt : y < i
                  · have hyn : (y : Int) < (n0 : Int) := by rw [HN0.out] at hi; omega
                    have hy9 : (y : Int) < 9 := by omega
                    obtain ⟨b, hb⟩ : ∃ b, l0[y]? = some b := ⟨_, List.getElem?_eq_getElem (by omega)⟩
                    have hnx := fitN_next hb
                    have HNB := Lib.hid hb
                    obtain ⟨ad, AB, cb, hA, hcell, _⟩ := (H0.out.below HB9.out) y b hb
                    subst hA
                    clear hb
                    by_cases h5 : b.length ≤ 500
                    · have h5I : ¬ (500 : Int) < (b.length : Int) := by omega
                      rw [if_pos h5] at hnx
                      obtain ⟨z, hz⟩ : ∃ z, fitN l0 y = z := ⟨_, rfl⟩
                      have hzl : z < c := by rw [← hz, ← HC.out]; exact fitN_lt hlt HNB.out h5
                      have hTz : T z = b := by rw [← hz]; exact HTX.out y b hlt HNB.out h5
                      have hin8 : m8.inUse (z : Int) = true := by unfold PgM.inUse; rw [HPG8.out, HUSE.out]; simp; omega
                      rw [hz] at hnx ⊢
                      have hrd := HP9.out.read HV8.out HB9.out.size (by omega) HON7.out (HT.out.below HB9.out (Nat.le_refl _)) (z : Int)
                      rw [hin8] at hrd
                      simp only [if_true, Int.toNat_natCast, hTz] at hrd
                      have HRD := Lib.hid hrd
                      have HNX := Lib.hid hnx
                      have hzb : z < 1000 := by omega
                      clear hrd hTz hin8 hz hzl hnx
                      go_wp2_with fail
                      refine HRD.out.mono ?_
                      rintro e wa ⟨A, kk, ca, rfl, ho, hba⟩
                      have hkk : b.length = kk := ho.len
                      have HBA := Lib.hid (HB9.out.trans (hba.mono HB9.out.size))
                      have HPA := Lib.hid (HP9.out.below hba)
                      obtain ⟨ad2, AB2, cb2, hA, hcellb, hbat⟩ := (H0.out.below HBA.out) y b HNB.out
                      obtain rfl : ad = ad2 := Option.some.inj hA
                      clear hA
                      have k1 := fun q => run_toString (P := Tryd.prog) (w := wa.drewN q) (ts := 9) Pl.byteTy fm_strTy ca (ho.bat.below (below_drewN (Below.refl _ _) q)) hkk
                      have k2 := fun q => run_toString (P := Tryd.prog) (w := wa.drewN q) (ts := 9) Pl.byteTy fm_strTy cb2 (hbat.below (below_drewN (Below.refl _ _) q)) rfl
                      have k3 := run_toString (P := Tryd.prog) (w := wa) (ts := 9) Pl.byteTy fm_strTy ca ho.bat hkk
                      have k4 := run_toString (P := Tryd.prog) (w := wa) (ts := 9) Pl.byteTy fm_strTy cb2 hbat rfl
                      generalize (⟨b.toArray⟩ : ByteArray) = S at k1 k2 k3 k4
                      clear ho hba hbat hcell HRD hkk
                      go_wp2_with fail
                      go_quiet (fail)
                      clear k1 k2 k3 k4 hcellb
                      go_wp2_with fail
                      go_roundw
                      case rel => exact ⟨y + 1, _, by omega, by simp, by rw [HNX.out]; simp, below_drewN HBA.out nq, HPA.out.below (below_drewN (Below.refl _ _) nq)⟩
                      case measure => simp [intOf]; omega
                    · have h5I : (500 : Int) < (b.length : Int) := by omega
                      rw [if_neg h5] at hnx
                      have HNX := Lib.hid hnx
                      clear hnx
                      go_wp2_with fail
                      go_roundw
                      case rel => exact ⟨y + 1, _, by omega, by simp, by rw [HNX.out]; rfl, HB9.out, HP9.out⟩
                      case measure => simp [intOf]; omega
                  · obtain rfl : y = i := by omega
                    go_wp2_with fail
                    go_ret
                    exact ⟨rfl, HB9.out⟩
            · have HV7 : Hid (Inv 210 (setAll vs7 Hf) [] (fmtM m) T T) := Lib.hid hv7
              clear hon7 hfu7 hsub hpd7 hm7 HBT hv7
              have HOP := Lib.hid (HPD7.out.opened HV7.out HB7.out.size (by omega) HON7.out (HT.out.below HB7.out (Nat.le_refl _)) (b210.trans HMP.out.symm))
              go_wp2_with fail
              refine HOP.out.mono ?_
              rintro e w8 ⟨g8, rfl, hp8, hv8, hb8⟩
              have HB8 := Lib.hid (HB7.out.trans (hb8.mono HB7.out.size))
              have hrt := hp8.root
              have hrm := hp8.room
              rw [show (fmtM m).drop.root = -1 from rfl] at hrt
              rw [fmtM_room, HMP.out] at hrm
              have HRT := Lib.hid hrt
              have HRM := Lib.hid hrm
              clear hp8 hv8 hb8 hrt hrm HOP
              go_wp2_with fail
              refine HRT.out.mono ?_
              rintro e _ ⟨rfl, rfl⟩
              go_wp2_with fail
              refine HRM.out.mono ?_
              rintro e _ ⟨rfl, rfl⟩
              go_wp2_with fail
              go_ret
              exact ⟨rfl, HB8.out⟩
end Go.Proofs.YtookhagpgkefpaaDoor.Pag
