/- The law 'PagerKeeps'. -/
import Derived.Test.YtookhagpgkefpaaDoorPagShown
import Derived.Test.YtookhagpgkefpaaDoorPagKeepP
import Derived.ArgAppend
import Derived.BigQuiet
namespace Go.Proofs.YtookhagpgkefpaaDoor.Pag
open Go Go.RowKit Mem Pl Disk Crc _root_.Go.Proofs.YtookhagpgkefpaaDoor.Frame
theorem strTy : Tryd.prog.underlying 9 = some .string := Tryd.underlying9
/-- Ahead of the commit. -/
def KpR1 (W : World) (l : List (List UInt8)) (a g : Nat) (Hs : List (List UInt8)) (av iv : Value) (wr : World) : Prop :=
  ∃ (i : Nat) (K : Nat → Prop) (pm : PM) (ws : Ws) (m : PgM) (T : Nat → List UInt8), i ≤ l.length ∧ i ≤ 20 ∧ iv = .int .i64 (i : Int) ∧ Below W.heap.size W wr ∧ Pg1 W.heap.size wr K a pm (2 + 8 * i) 0 402 Hs ws g m ∧ Inv 402 Hs ws m T noT ∧
    pm.off = false ∧ pm.fuse = none ∧ m.pages = 50 ∧ m.gen = 1 ∧ m.was = no48 ∧ FirstC m (fitN l i) ∧ TextsOf l i T ∧ Ints W.heap.size wr K av (atsOf l i)
def KpR2 (l : List (List UInt8)) (k : Nat) (wr0 : World) (rv iv : Value) (wr : World) : Prop := ∃ i : Nat, i ≤ k ∧ iv = .int .i64 (i : Int) ∧ rv = .int .i64 ((fitN l i : Int) - 1) ∧ wr = wr0
/-- Behind the commit. -/
def KpR3 (W : World) (l : List (List UInt8)) (k L1 a g : Nat) (Hs : List (List UInt8)) (C : Nat → List UInt8) (av iv : Value) (wr : World) : Prop :=
  ∃ (i : Nat) (K : Nat → Prop) (pm : PM) (ws : Ws) (m : PgM) (T : Nat → List UInt8), i ≤ L1 ∧ iv = .int .i64 (i : Int) ∧ Below W.heap.size W wr ∧ Pg1 W.heap.size wr K a pm (200 + 8 * i) 0 402 Hs ws g m ∧ Inv 402 Hs ws m T C ∧
    pm.off = false ∧ pm.fuse = none ∧ m.pages = 50 ∧ m.root = (fitN l k : Int) - 1 ∧ (∀ p, hasB m.was p = decide (p < fitN l k)) ∧ Ints W.heap.size wr K av (atsOf l k)
def KpR4 (W : World) (l : List (List UInt8)) (k : Nat) (a g n : Nat) (Hs : List (List UInt8)) (ws : Ws) (m : PgM) (T C : Nat → List UInt8) (av iv : Value) (wr : World) : Prop :=
  ∃ (i : Nat) (K : Nat → Prop) (pm : PM), i ≤ k ∧ iv = .int .i64 (i : Int) ∧ Below W.heap.size W wr ∧ Pg1 W.heap.size wr K a pm n 0 402 Hs ws g m ∧ Inv 402 Hs ws m T C ∧ pm.off = false ∧ Ints W.heap.size wr K av (atsOf l k)
theorem freeM_same (m : PgM) (z : Int) : (freeM m z).1.pages = m.pages ∧ (freeM m z).1.root = m.root ∧ (freeM m z).1.was = m.was := by
  unfold freeM
  split <;> exact ⟨rfl, rfl, rfl⟩
/-- One number more. -/
theorem kp_app {W w2 w5 : World} {K : Nat → Prop} {a : Nat} {pm : PM} {n dev N : Nat} {H : List (List UInt8)} {ws : Ws} {g : Nat} {m : PgM} {zs : List Int} {z : Int} {v5 : Value} {row5 : Option Nat} {k : Nat} (hp : Pg1 W.heap.size w2 K a pm n dev N H ws g m) (hb : Below W.heap.size W w2)
    (hv : Vec w5 (Grow (fun g => W.heap.size ≤ g ∧ ¬ K g) w2 w5) 3 1 v5 (k + 1) (zs.map intV ++ [.int .i64 z])) (hg : w2.grownBy w5 row5) (hr : row5 = none ∨ ∃ g cs, row5 = some g ∧ (W.heap.size ≤ g ∧ ¬ K g) ∧ w2.heap[g]? = some (.cells cs 3 (0, 0))) (hk : zs.length = k) :
    Below W.heap.size W w5 ∧ Pg1 W.heap.size w5 K a pm n dev N H ws g m ∧ Ints W.heap.size w5 K v5 (zs ++ [z]) := by
  have hm : Mods w2.heap.size (fun q => W.heap.size ≤ q ∧ ¬ K q) w2 w5 := (Mods.refl w2.heap.size _ w2).grown hg (Nat.le_refl _) fun q hq => by
    rcases hr with h | ⟨g', cs, h, hf, _⟩
    · rw [h] at hq; cases hq
    · rw [h] at hq; injection hq with hq; subst hq; exact .inl hf
  refine ⟨hb.trans ((hm.mono hb.size fun _ _ h => h).below fun q hq hf => by omega), hp.off_ hm (Nat.le_refl _) fun q hq => hq.2, ?_⟩
  unfold Ints
  have e : (zs ++ [z]).map intV = zs.map intV ++ [.int .i64 z] := by simp [intV]
  rw [e, show (zs ++ [z]).length = k + 1 by simp [hk]]
  exact hv.mono fun q _ hq => by
    rcases hq with hq | hq
    · exact hq
    · exact ⟨Nat.le_trans hb.size hq.1, fun hK => by have := (hp.lt q hK).2; omega⟩
theorem b402 : min ((402 - 2) / 8) 384 = 50 := by decide
set_option maxRecDepth 100000 in
set_option maxHeartbeats 16000000 in
theorem lawKeeps (A0 A1 KA : Option Addr) (n0 n1 kn c0 c1 kc : Nat) (l0 l1 : List (List UInt8)) (keep : List Int) (W : World) (ht : TabB W.heap.size W) (h0 : RowsAt W A0 l0) (hn0 : l0.length = n0) (h1 : RowsAt W A1 l1) (hn1 : l1.length = n1) (hm0 : n0 ≤ 10000000) (hm1 : n1 ≤ 10000000)
    (hL0 : ∀ b ∈ l0, b.length ≤ 100000000) (hL1 : ∀ b ∈ l1, b.length ≤ 100000000) (hk : IAt W KA keep) (hkl : keep.length = kn) (hkm : kn ≤ 9223372036854775807) (hkW : keep ≠ [] → ∀ ad, KA = some ad → ad.block < W.heap.size) :
    Calls Tryd.prog 6 #[.slice A0 n0 c0, .slice A1 n1 c1, .slice KA kn kc] W fun e W' => e = .returned (.bool true) ∧ Below W.heap.size W W' := by
  have HT := Lib.hid ht
  have H0 := Lib.hid h0
  have H1 := Lib.hid h1
  have HN0 := Lib.hid hn0
  have HN1 := Lib.hid hn1
  have HL0 := Lib.hid hL0
  have HL1 := Lib.hid hL1
  have HK := Lib.hid hk
  have HKL := Lib.hid hkl
  have HKW := Lib.hid hkW
  have HSH := Lib.hid (shown_any W ht)
  clear ht h0 h1 hn0 hn1 hL0 hL1 hk hkl hkW
  go_enter Tryd.func6, Tryd.ntmps6
  go_wp2_with fail
  refine HSH.out.mono ?_
  rintro e w0 ⟨rfl, hb0⟩
  have HB0 := Lib.hid hb0
  have HMD := Lib.hid (made_one (w := w0) (B := W.heap.size) 402 (by omega) (by omega) hb0.size rfl)
  clear hb0 HSH
  go_wp2_with fail
  refine HMD.out.mono ?_
  rintro e w1 ⟨a, rfl, hp, hb⟩
  have HB1 := Lib.hid (HB0.out.trans (hb.mono HB0.out.size))
  have HT1 := Lib.hid (HT.out.below HB1.out (Nat.le_refl _))
  have HP1 := Lib.hid hp
  have HFM := Lib.hid (hp.formatNew HB1.out.size (by omega) rfl rfl HT1.out (by omega))
  clear hp hb HMD
  go_wp2_with fail
  refine HFM.out.mono ?_
  rintro e w3 ⟨pm3, H3, rfl, hon3, hfu3, hp3, hi3, hm3⟩
  rw [b402] at hi3
  have HP3 := Lib.hid hp3
  have HI3 := Lib.hid hi3
  have HB3 := Lib.hid (grow_below hm3 HP1.out.lt HB1.out.size HB1.out)
  have HT3 := Lib.hid (HT.out.below HB3.out (Nat.le_refl _))
  have HON3 := Lib.hid hon3
  have HFU3 := Lib.hid hfu3
  have HOQ := Lib.hid (hp3.opened hi3 HB3.out.size (by omega) hon3 HT3.out rfl)
  clear hp3 hi3 hm3 hon3 hfu3 HFM
  go_wp2_with fail
  refine HOQ.out.mono ?_
  rintro e w4 ⟨g, rfl, hp4, hi4, hb4⟩
  have HI4 : Hid (Inv 402 H3 [] (pgNew 50) noT noT) := Lib.hid hi4
  have HP4 : Hid (Pg1 W.heap.size w4 _ a pm3 _ 0 402 H3 [] g (pgNew 50)) := Lib.hid hp4
  have HB4 := Lib.hid (HB3.out.trans (hb4.mono HB3.out.size))
  clear hp4 hi4 hb4 HOQ
  go_wp2_with fail
  have hb5 := below_al' (w := w4) (.cells #[] 3)
  have HB5 := Lib.hid (HB4.out.trans (hb5.mono HB4.out.size))
  have HP5 := Lib.hid (HP4.out.below hb5)
  clear hb5 HP4 HT3 HB3 HB1 HT1 HP1 HP3 HI3
  go_loopw [13, 14] (fun av iv wr => KpR1 W l0 a g H3 av iv wr) (fun _ iv _ => 20 - (intOf iv).toNat)
  case atStart => exact ⟨0, _, _, _, _, _, by omega, by omega, rfl, HB5.out, HP5.out, HI4.out, HON3.out, HFU3.out, rfl, rfl, rfl, ⟨fun p => by rw [show (pgNew 50).use = no48 from rfl, hasB_no48]; rfl, fun p hp => by rw [show (pgNew 50).was = no48 from rfl, hasB_no48] at hp; cases hp⟩, fun j b hj => by omega, Ints.nil_ _ _ _ _⟩
  case round =>
    obtain ⟨i, K, pm, ws, m, T, hi, hi20, rfl, hbw, hp, hv, hon, hfu, hmp, hmg, hmw, hfc, htx, hin⟩ := hrel
    have HBW := Lib.hid hbw
    have HP := Lib.hid hp
    have HV := Lib.hid hv
    have HON := Lib.hid hon
    have HFU := Lib.hid hfu
    have HMP := Lib.hid hmp
    have HMG := Lib.hid hmg
    have HMW := Lib.hid hmw
    have HFC := Lib.hid hfc
    have HTX := Lib.hid htx
    have HIN := Lib.hid hin
    have HTW := Lib.hid (HT.out.below hbw (Nat.le_refl _))
    obtain ⟨AV, cV, rfl⟩ := hin.shape
    have hal := atsOf_len l0 i
    rw [hal] at HIN
    clear hbw hp hv hon hfu hmp hmg hmw hfc htx hin
    by_cases hgo : i < n0 ∧ i < 20
    · obtain ⟨hlt, hlt2⟩ := hgo
      have hiI : (i : Int) < (n0 : Int) := by omega
      have hi2I : (i : Int) < 20 := by omega
      obtain ⟨b, hb⟩ : ∃ b, l0[i]? = some b := ⟨_, List.getElem?_eq_getElem (by rw [HN0.out]; exact hlt)⟩
      have hbl := HL0.out b (List.mem_of_getElem? hb)
      obtain ⟨ad, AB, cb, hA, hcell, hbat⟩ := (H0.out.below HBW.out) i b hb
      subst hA
      have hput := HP.out.put HV.out HBW.out.size (by omega) HON.out HTW.out AB b.length cb b hbat rfl (by omega)
      have hfl := fitN_le l0 i
      have hnx := fitN_next hb
      have HNB := Lib.hid hb
      clear hbat hb
      by_cases h5 : b.length ≤ 500
      · have h5I : (b.length : Int) ≤ 500 := by omega
        obtain ⟨hpe, hpf⟩ := HFC.out.put (T := T) (b := b) (by rw [HMP.out]; omega) HV.out.ul HV.out.n384 h5
        rw [hpe] at hput
        rw [if_pos h5] at hnx
        have HTX2 := Lib.hid (HTX.out.put HNB.out)
        have HFC2 := Lib.hid (show FirstC { m with use := setB m.use (fitN l0 i) true } (fitN l0 (i + 1)) by rw [hnx]; exact hpf)
        have HAT := Lib.hid (show atOf l0 i = (fitN l0 i : Int) by unfold atOf; rw [List.getD_eq_getElem?_getD, HNB.out]; exact if_pos h5)
        clear hpe hpf
        have HPUT := Lib.hid hput
        clear hput hnx
        go_wp2_with fail
        refine HPUT.out.mono ?_
        rintro e w2 ⟨pm2, ws2, hm2, ⟨rfl, hon2, hfu2, hp2, hv2⟩ | ⟨_, _, hfz, _⟩⟩
        rotate_left
        · exact absurd HFU.out hfz
        have HB2 := Lib.hid (grow_below hm2 HP.out.lt HBW.out.size HBW.out)
        have HIN2 := Lib.hid ((show Ints W.heap.size wr K (.slice AV i cV) (atsOf l0 i) from by have := HIN.out; exact this).mods hm2)
        have HON2 := Lib.hid hon2
        have HFU2 := Lib.hid (hfu2 HFU.out)
        have HP2 := Lib.hid hp2
        have HV2 := Lib.hid hv2
        obtain ⟨ad2, AB2, cb2, hA2, hcell2, _⟩ := (H0.out.below HB2.out) i b HNB.out
        have had : ad2 = ad := by injection hA2 with hA2; exact hA2.symm
        subst had
        have hb3 := below_al' (w := w2) (.cells #[.int .i64 (fitN l0 i : Int)] 3)
        have HB3 := Lib.hid (HB2.out.trans (hb3.mono HB2.out.size))
        have HP3 := Lib.hid (HP2.out.below hb3)
        have HIN3 := Lib.hid (HIN2.out.below hb3)
        have HKZ := Lib.hid (Blk.new w2 3 #[.int .i64 (fitN l0 i : Int)])
        clear hm2 hon2 hfu2 hp2 hv2 hb3 hA2 hcell HPUT
        go_wp2_with
          (refine wpList_append_vec rfl (.tmp 89) (.tmp 91) _ rfl 8 _ intTy rfl (show Vec _ _ _ _ (.slice AV i cV) i _ from by have := HIN3.out; unfold Ints at this; rw [hal] at this; exact this) ⟨w2.heap.size, 0, none⟩ 1 1 [.int .i64 (fitN l0 i : Int)] rfl rfl (blk_news (cs := [.int .i64 (fitN l0 i : Int)]) HKZ.out) (by intro u hu; simp at hu; subst hu; rfl) (by unfold maxLen; omega) (by omega) ?_
           intro v5 w5 row5 hv5 hg5 hr5
           have HV5 := Lib.hid hv5
           have HR5 := Lib.hid (kp_app (zs := atsOf l0 i) (z := (fitN l0 i : Int)) HP3.out HB3.out hv5 hg5 hr5 hal)
           clear hv5 hg5 hr5)
        go_roundw
        case rel =>
          obtain ⟨h1, h2, h3⟩ := HR5.out
          refine ⟨i + 1, _, _, _, _, _, by rw [HN0.out]; omega, by omega, by simp, h1, h2, HV2.out, HON2.out, HFU2.out, HMP.out, HMG.out, HMW.out, HFC2.out, HTX2.out, ?_⟩
          rw [← atsOf_next, HAT.out]
          exact h3
        case measure => clear hal; simp [intOf]; omega
      · have h5I : ¬ (b.length : Int) ≤ 500 := by omega
        rw [putM_long (by omega)] at hput
        rw [if_neg h5] at hnx
        have HTX2 := Lib.hid (HTX.out.skip HNB.out (by omega))
        have HFC2 := Lib.hid (show FirstC m (fitN l0 (i + 1)) by rw [hnx]; exact HFC.out)
        have HAT := Lib.hid (show atOf l0 i = -1 by unfold atOf; rw [List.getD_eq_getElem?_getD, HNB.out]; exact if_neg h5)
        have HPUT := Lib.hid hput
        clear hput hnx
        go_wp2_with fail
        refine HPUT.out.mono ?_
        rintro e w2 ⟨pm2, ws2, hm2, ⟨rfl, hon2, hfu2, hp2, hv2⟩ | ⟨_, _, hfz, _⟩⟩
        rotate_left
        · exact absurd HFU.out hfz
        have HB2 := Lib.hid (grow_below hm2 HP.out.lt HBW.out.size HBW.out)
        have HIN2 := Lib.hid ((show Ints W.heap.size wr K (.slice AV i cV) (atsOf l0 i) from by have := HIN.out; exact this).mods hm2)
        have HON2 := Lib.hid hon2
        have HFU2 := Lib.hid (hfu2 HFU.out)
        have HP2 := Lib.hid hp2
        have HV2 := Lib.hid hv2
        obtain ⟨ad2, AB2, cb2, hA2, hcell2, _⟩ := (H0.out.below HB2.out) i b HNB.out
        have had : ad2 = ad := by injection hA2 with hA2; exact hA2.symm
        subst had
        have hb3 := below_al' (w := w2) (.cells #[.int .i64 (-1)] 3)
        have HB3 := Lib.hid (HB2.out.trans (hb3.mono HB2.out.size))
        have HP3 := Lib.hid (HP2.out.below hb3)
        have HIN3 := Lib.hid (HIN2.out.below hb3)
        have HKZ := Lib.hid (Blk.new w2 3 #[.int .i64 (-1)])
        clear hm2 hon2 hfu2 hp2 hv2 hb3 hA2 hcell HPUT
        go_wp2_with
          (refine wpList_append_vec rfl (.tmp 89) (.tmp 91) _ rfl 8 _ intTy rfl (show Vec _ _ _ _ (.slice AV i cV) i _ from by have := HIN3.out; unfold Ints at this; rw [hal] at this; exact this) ⟨w2.heap.size, 0, none⟩ 1 1 [.int .i64 (-1)] rfl rfl (blk_news (cs := [.int .i64 (-1)]) HKZ.out) (by intro u hu; simp at hu; subst hu; rfl) (by unfold maxLen; omega) (by omega) ?_
           intro v5 w5 row5 hv5 hg5 hr5
           have HV5 := Lib.hid hv5
           have HR5 := Lib.hid (kp_app (zs := atsOf l0 i) (z := (-1)) HP3.out HB3.out hv5 hg5 hr5 hal)
           clear hv5 hg5 hr5)
        go_roundw
        case rel =>
          obtain ⟨h1, h2, h3⟩ := HR5.out
          refine ⟨i + 1, _, _, _, _, _, by rw [HN0.out]; omega, by omega, by simp, h1, h2, HV2.out, HON2.out, HFU2.out, HMP.out, HMG.out, HMW.out, HFC2.out, HTX2.out, ?_⟩
          rw [← atsOf_next, HAT.out]
          exact h3
        case measure => clear hal; simp [intOf]; omega
    · by_cases hiN : i < n0
      · have hiI : (i : Int) < (n0 : Int) := by omega
        have hi2I : ¬ (i : Int) < 20 := by omega
        clear hgo
        go_wp2_with fail
        clear hal
        obtain ⟨w1, rfl⟩ : ∃ w1, w1 = wr := ⟨_, rfl⟩
        go_loopw [17, 18] (fun rv iv wr => KpR2 l0 i w1 rv iv wr) (fun _ iv _ => i - (intOf iv).toNat)
        case atStart => exact ⟨0, by omega, rfl, by unfold fitN; simp, rfl⟩
        case round =>
          obtain ⟨j, hj, rfl, rfl, rfl⟩ := hrel
          have hjc := fitN_le l0 j
          by_cases hlt : j < i
          · have hjI : (j : Int) < (i : Int) := by omega
            have hjl : j < l0.length := by omega
            obtain ⟨b, hb⟩ : ∃ b, l0[j]? = some b := ⟨_, List.getElem?_eq_getElem hjl⟩
            have hnx := fitN_next hb
            obtain ⟨gA, hA, hcell⟩ := HIN.out.cell2 (atsOf_get l0 hlt)
            subst hA
            have hat : atOf l0 j = if b.length ≤ 500 then (fitN l0 j : Int) else -1 := by unfold atOf; rw [List.getD_eq_getElem?_getD, hb]; rfl
            have HNX := Lib.hid hnx
            clear hb hnx
            obtain ⟨z, hz⟩ : ∃ z, atOf l0 j = z := ⟨_, rfl⟩
            obtain ⟨r, hr⟩ : ∃ r : Int, (fitN l0 j : Int) - 1 = r := ⟨_, rfl⟩
            rw [hz] at hcell hat
            rw [hr]
            by_cases hle : r < z
            · have HE : Hid (z = (fitN l0 (j + 1) : Int) - 1) := Lib.hid (by
                rw [HNX.out]
                split at hat
                · rename_i h5; rw [if_pos h5]; omega
                · rename_i h5; rw [if_neg h5]; omega)
              clear hat hz hr hjl hjc
              go_wp2_with fail
              go_roundw
              case rel => exact ⟨j + 1, by omega, by simp, by rw [HE.out], rfl⟩
              case measure => simp [intOf]; omega
            · have HE : Hid (r = (fitN l0 (j + 1) : Int) - 1) := Lib.hid (by
                rw [HNX.out]
                split at hat
                · rename_i h5; rw [if_pos h5]; omega
                · rename_i h5; rw [if_neg h5]; omega)
              clear hat hz hr hjl hjc
              go_wp2_with fail
              go_roundw
              case rel => exact ⟨j + 1, by omega, by simp, by rw [HE.out], rfl⟩
              case measure => simp [intOf]; omega
          · obtain rfl : j = i := by omega
            have hjI : ¬ (j : Int) < (j : Int) := by omega
            obtain ⟨c, hc⟩ : ∃ c, fitN l0 j = c := ⟨_, rfl⟩
            obtain ⟨ro, hro⟩ : ∃ ro : Int, (c : Int) - 1 = ro := ⟨_, rfl⟩
            rw [hc] at hjc HFC ⊢
            rw [hro]
            have HC := Lib.hid hc
            have HRO := Lib.hid hro
            have hmay : m.rootMay ro = true := by
              rw [← hro]
              unfold PgM.rootMay PgM.inUse
              rw [HMP.out, HFC.out.use]
              simp
              omega
            have HCM := Lib.hid (HP.out.commit HV.out HBW.out.size (by omega) HON.out HTW.out (by rw [HMG.out]; omega) ro)
            clear hc hro
            go_wp2_with fail
            refine HCM.out.mono ?_
            rintro e w5 ⟨pm5, H5, ws5, hm5, ⟨h, _⟩ | ⟨_, rfl, hon5, hfu5, hp5, hv5⟩ | ⟨_, _, _, hfz, _⟩⟩
            · rw [hmay] at h; cases h
            rotate_left
            · exact absurd HFU.out hfz
            have HB5 := Lib.hid (grow_below hm5 HP.out.lt HBW.out.size HBW.out)
            have HP5 := Lib.hid (hp5.more (show 2 + 8 * j + 3 ≤ 200 + 8 * 0 by omega))
            have HV5 := Lib.hid hv5
            have HON5 := Lib.hid hon5
            have HFU5 := Lib.hid (hfu5 HFU.out)
            have HIN5 := Lib.hid (HIN.out.mods hm5)
            have HWS5 : Hid (∀ p, hasB (m.commit ro).was p = decide (p < fitN l0 j)) := Lib.hid (fun p => by rw [HC.out]; exact HFC.out.use p)
            have HPG5 : Hid ((m.commit ro).pages = 50) := Lib.hid HMP.out
            have HRT5 : Hid ((m.commit ro).root = (fitN l0 j : Int) - 1) := Lib.hid (by rw [HC.out, HRO.out]; rfl)
            generalize m.commit ro = m5 at *
            clear hm5 hp5 hv5 hon5 hfu5 HCM hmay
            go_wp2_with fail
            go_loopw [20] (fun iv wr => KpR3 W l0 j n1 a g H5 T (.slice AV j cV) iv wr) (fun iv _ => n1 - (intOf iv).toNat)
            case atStart => exact ⟨0, _, _, _, _, _, by omega, rfl, HB5.out, HP5.out, HV5.out, HON5.out, HFU5.out, HPG5.out, HRT5.out, HWS5.out, HIN5.out⟩
            case round =>
              obtain ⟨q, K6, pm6, ws6, m6, T6, hq, rfl, hb6, hp6, hv6, hon6, hfu6, hmp6, hrt6, hws6, hin6⟩ := hrel
              have HB6 := Lib.hid hb6
              have HP6 := Lib.hid hp6
              have HV6 := Lib.hid hv6
              have HONR := Lib.hid hon6
              have HFUR := Lib.hid hfu6
              have HMPR := Lib.hid hmp6
              have HRTR := Lib.hid hrt6
              have HWSR := Lib.hid hws6
              have HIN6 := Lib.hid hin6
              clear hb6 hp6 hv6 hon6 hfu6 hmp6 hrt6 hws6 hin6
              by_cases hlt : q < n1
              · have hqI : (q : Int) < (n1 : Int) := by omega
                obtain ⟨r, hr⟩ : ∃ r, q / 3 = r := ⟨_, rfl⟩
                have hrI : (q : Int) / 3 = (r : Int) := by omega
                by_cases hm3 : q % 3 = 1
                · have hm3I : ((q : Int) % 3 == 1) = true := by rw [beq_iff_eq]; omega
                  by_cases hrk : r < j
                  · have hrkI : (r : Int) < (j : Int) := by omega
                    obtain ⟨gA, hA, hcell⟩ := HIN6.out.cell2 (atsOf_get l0 hrk)
                    subst hA
                    have HFR := Lib.hid (HP6.out.free HV6.out HB6.out.size (atOf l0 r))
                    clear hm3
                    go_wp2_with fail
                    refine HFR.out.mono ?_
                    rintro e w6 ⟨hm6, rfl, hp6, hv6⟩
                    have HB7 := Lib.hid (grow_below hm6 HP6.out.lt HB6.out.size HB6.out)
                    have HP7 := Lib.hid hp6
                    have HV7 := Lib.hid hv6
                    have HIN7 := Lib.hid (HIN6.out.mods hm6)
                    obtain ⟨e1, e2, e3⟩ := freeM_same m6 (atOf l0 r)
                    rw [← e1] at HMPR
                    rw [← e2] at HRTR
                    rw [← e3] at HWSR
                    generalize (freeM m6 (atOf l0 r)).1 = m7 at *
                    clear hm6 hp6 hv6 HFR hcell e1 e2 e3
                    obtain ⟨b, hb⟩ : ∃ b, l1[q]? = some b := ⟨_, List.getElem?_eq_getElem (by rw [HN1.out]; exact hlt)⟩
                    have hbl := HL1.out b (List.mem_of_getElem? hb)
                    obtain ⟨ad1, AB, cb, hA1, hcell1, hbat⟩ := (H1.out.below HB7.out) q b hb
                    subst hA1
                    have HPUT := Lib.hid (HP7.out.put HV7.out HB7.out.size (by omega) HONR.out (HT.out.below HB7.out (Nat.le_refl _)) AB b.length cb b hbat rfl (by omega))
                    clear hbat hb
                    go_wp2_with fail
                    refine HPUT.out.mono ?_
                    rintro e w7 ⟨pm7, ws7, hm7, ⟨rfl, hon7, hfu7, hp7, hv7⟩ | ⟨_, _, hfz, _⟩⟩
                    rotate_left
                    · exact absurd HFUR.out hfz
                    have HR7 := Lib.hid (⟨grow_below hm7 HP7.out.lt HB7.out.size HB7.out, hp7, hv7, hon7, hfu7 HFUR.out, HIN7.out.mods hm7⟩ : Below W.heap.size W w7 ∧ Pg1 W.heap.size w7 _ a pm7 _ 0 402 H5 ws7 g _ ∧ Inv 402 H5 ws7 _ _ T ∧ pm7.off = false ∧ pm7.fuse = none ∧ Ints W.heap.size w7 _ _ _)
                    clear hm7 hon7 hfu7 hp7 hv7 HPUT hcell1
                    go_wp2_with fail
                    go_roundw
                    case rel =>
                      obtain ⟨h1, h2, h3, h4, h5, h6⟩ := HR7.out
                      obtain ⟨e1, e2, e3, e4⟩ := putM_pages m7 T6 b
                      exact ⟨q + 1, _, pm7, ws7, _, _, by rw [HN1.out] at *; omega, by simp, h1, h2.more (by omega), h3, h4, h5, by rw [e1]; exact HMPR.out, by rw [e4]; exact HRTR.out, by rw [e3]; exact HWSR.out, h6⟩
                    case measure => simp [intOf]; omega
                  · have hrkI : ¬ (r : Int) < (j : Int) := by omega
                    clear hm3
                    obtain ⟨b, hb⟩ : ∃ b, l1[q]? = some b := ⟨_, List.getElem?_eq_getElem (by rw [HN1.out]; exact hlt)⟩
                    have hbl := HL1.out b (List.mem_of_getElem? hb)
                    obtain ⟨ad1, AB, cb, hA1, hcell1, hbat⟩ := (H1.out.below HB6.out) q b hb
                    subst hA1
                    have HPUT := Lib.hid (HP6.out.put HV6.out HB6.out.size (by omega) HONR.out (HT.out.below HB6.out (Nat.le_refl _)) AB b.length cb b hbat rfl (by omega))
                    clear hbat hb
                    go_wp2_with fail
                    refine HPUT.out.mono ?_
                    rintro e w7 ⟨pm7, ws7, hm7, ⟨rfl, hon7, hfu7, hp7, hv7⟩ | ⟨_, _, hfz, _⟩⟩
                    rotate_left
                    · exact absurd HFUR.out hfz
                    have HR7 := Lib.hid (⟨grow_below hm7 HP6.out.lt HB6.out.size HB6.out, hp7, hv7, hon7, hfu7 HFUR.out, HIN6.out.mods hm7⟩ : Below W.heap.size W w7 ∧ Pg1 W.heap.size w7 _ a pm7 _ 0 402 H5 ws7 g _ ∧ Inv 402 H5 ws7 _ _ T ∧ pm7.off = false ∧ pm7.fuse = none ∧ Ints W.heap.size w7 _ _ _)
                    clear hm7 hon7 hfu7 hp7 hv7 HPUT hcell1
                    go_wp2_with fail
                    go_roundw
                    case rel =>
                      obtain ⟨h1, h2, h3, h4, h5, h6⟩ := HR7.out
                      obtain ⟨e1, e2, e3, e4⟩ := putM_pages m6 T6 b
                      exact ⟨q + 1, _, pm7, ws7, _, _, by rw [HN1.out] at *; omega, by simp, h1, h2.more (by omega), h3, h4, h5, by rw [e1]; exact HMPR.out, by rw [e4]; exact HRTR.out, by rw [e3]; exact HWSR.out, h6⟩
                    case measure => simp [intOf]; omega
                · have hm3I : ((q : Int) % 3 == 1) = false := by rw [beq_eq_false_iff_ne]; omega
                  clear hm3
                  obtain ⟨b, hb⟩ : ∃ b, l1[q]? = some b := ⟨_, List.getElem?_eq_getElem (by rw [HN1.out]; exact hlt)⟩
                  have hbl := HL1.out b (List.mem_of_getElem? hb)
                  obtain ⟨ad1, AB, cb, hA1, hcell1, hbat⟩ := (H1.out.below HB6.out) q b hb
                  subst hA1
                  have HPUT := Lib.hid (HP6.out.put HV6.out HB6.out.size (by omega) HONR.out (HT.out.below HB6.out (Nat.le_refl _)) AB b.length cb b hbat rfl (by omega))
                  clear hbat hb
                  go_wp2_with fail
                  refine HPUT.out.mono ?_
                  rintro e w7 ⟨pm7, ws7, hm7, ⟨rfl, hon7, hfu7, hp7, hv7⟩ | ⟨_, _, hfz, _⟩⟩
                  rotate_left
                  · exact absurd HFUR.out hfz
                  have HR7 := Lib.hid (⟨grow_below hm7 HP6.out.lt HB6.out.size HB6.out, hp7, hv7, hon7, hfu7 HFUR.out, HIN6.out.mods hm7⟩ : Below W.heap.size W w7 ∧ Pg1 W.heap.size w7 _ a pm7 _ 0 402 H5 ws7 g _ ∧ Inv 402 H5 ws7 _ _ T ∧ pm7.off = false ∧ pm7.fuse = none ∧ Ints W.heap.size w7 _ _ _)
                  clear hm7 hon7 hfu7 hp7 hv7 HPUT hcell1
                  go_wp2_with fail
                  go_roundw
                  case rel =>
                    obtain ⟨h1, h2, h3, h4, h5, h6⟩ := HR7.out
                    obtain ⟨e1, e2, e3, e4⟩ := putM_pages m6 T6 b
                    exact ⟨q + 1, _, pm7, ws7, _, _, by rw [HN1.out] at *; omega, by simp, h1, h2.more (by omega), h3, h4, h5, by rw [e1]; exact HMPR.out, by rw [e4]; exact HRTR.out, by rw [e3]; exact HWSR.out, h6⟩
                  case measure => simp [intOf]; omega
              · obtain rfl : q = n1 := by omega
                have hqI : ¬ (q : Int) < (q : Int) := by omega
                have HBT := Lib.hid (HP6.out.plant.boot HB6.out.size (by omega) KA kn kc keep (HK.out.below HB6.out) HKL.out (fun hne ad e hKd => by have h1 := HKW.out hne ad e; have h2 := (HP6.out.lt _ hKd).1; omega) hkm)
                go_wp2_with fail
                refine HBT.out.mono ?_
                rintro e w7 ⟨pm7, vs7, rfl, hon7, hfu7, hsub, hpd7, hm7⟩
                have HB7 := Lib.hid (grow_below hm7 HP6.out.lt HB6.out.size HB6.out)
                have HON7 := Lib.hid hon7
                have HPD7 := Lib.hid hpd7
                have HV7 := Lib.hid (HV6.out.sub hsub)
                have HIN7 := Lib.hid (HIN6.out.mods hm7)
                have HT7 := Lib.hid (HT.out.below HB7.out (Nat.le_refl _))
                have HOP := Lib.hid (hpd7.opened HV7.out HB7.out.size (by omega) hon7 HT7.out (b402.trans HMPR.out.symm))
                clear hon7 hfu7 hsub hpd7 hm7 HBT
                go_wp2_with fail
                refine HOP.out.mono ?_
                rintro e w8 ⟨g8, rfl, hp8, hv8, hb8⟩
                have HB8 := Lib.hid (HB7.out.trans (hb8.mono HB7.out.size))
                have HP8 := Lib.hid hp8
                have HV8 := Lib.hid hv8
                have HIN8 := Lib.hid ((HIN7.out.mods (Mods.of_below hb8)))
                have hrt := hp8.root
                rw [show m6.drop.drop.root = m6.root from rfl, HRTR.out] at hrt
                have HRT8 := Lib.hid hrt
                have HUSE : Hid (∀ p, hasB m6.drop.drop.use p = decide (p < fitN l0 j)) := Lib.hid HWSR.out
                have HPG8 : Hid (m6.drop.drop.pages = 50) := Lib.hid HMPR.out
                generalize m6.drop.drop = m8 at *
                clear hp8 hv8 hb8 HOP hrt
                go_wp2_with fail
                refine HRT8.out.mono ?_
                rintro e _ ⟨rfl, rfl⟩
                have hbeq : (((fitN l0 j : Int) - 1 != ro) : Bool) = false := by have := HC.out; have := HRO.out; simp; omega
                go_wp2_with fail
                go_loopw [21] (fun iv wr => KpR4 W l0 j a g8 (200 + 8 * q + 1) _ _ m8 T T (.slice AV j cV) iv wr) (fun iv _ => j - (intOf iv).toNat)
                case atStart => exact ⟨0, _, _, by omega, rfl, HB8.out, HP8.out, HV8.out, HON7.out, HIN8.out⟩
                case round =>
                  obtain ⟨y, K9, pm9, hy, rfl, hb9, hp9, hv9, hon9, hin9⟩ := hrel
                  have HB9 := Lib.hid hb9
                  have HP9 := Lib.hid hp9
                  have HV9 := Lib.hid hv9
                  have HON9 := Lib.hid hon9
                  have HIN9 := Lib.hid hin9
                  clear hb9 hp9 hv9 hon9 hin9
                  by_cases hlt : y < j
                  · have hyI : (y : Int) < (j : Int) := by omega
                    obtain ⟨b, hb⟩ : ∃ b, l0[y]? = some b := ⟨_, List.getElem?_eq_getElem (by omega)⟩
                    obtain ⟨gA, hA, hcell⟩ := HIN9.out.cell2 (atsOf_get l0 hlt)
                    subst hA
                    have hat : atOf l0 y = if b.length ≤ 500 then (fitN l0 y : Int) else -1 := by unfold atOf; rw [List.getD_eq_getElem?_getD, hb]; rfl
                    have HNB := Lib.hid hb
                    clear hb
                    by_cases h5 : b.length ≤ 500
                    · rw [if_pos h5] at hat
                      rw [hat] at hcell
                      obtain ⟨z, hz⟩ : ∃ z, fitN l0 y = z := ⟨_, rfl⟩
                      have hzl : z < fitN l0 j := by rw [← hz]; exact fitN_lt hlt HNB.out h5
                      have hTz : T z = b := by rw [← hz]; exact HTX.out y b hlt HNB.out h5
                      have hfl := fitN_le l0 j
                      have hin8 : m8.inUse (z : Int) = true := by unfold PgM.inUse; rw [HPG8.out, HUSE.out]; simp; omega
                      rw [hz] at hcell
                      have hz0 : ¬ (z : Int) < 0 := by omega
                      have hrd := HP9.out.read HV9.out HB9.out.size (by omega) HON9.out (HT.out.below HB9.out (Nat.le_refl _)) (z : Int)
                      rw [hin8] at hrd
                      simp only [if_true, Int.toNat_natCast, hTz] at hrd
                      have HRD := Lib.hid hrd
                      clear hrd hTz hin8 hz hat hzl hfl
                      go_wp2_with fail
                      refine HRD.out.mono ?_
                      rintro e wa ⟨A, kk, c, rfl, ho, hba⟩
                      have hkk : b.length = kk := ho.len
                      have HBA := Lib.hid (HB9.out.trans (hba.mono HB9.out.size))
                      have HPA := Lib.hid (HP9.out.below hba)
                      have HINA := Lib.hid (HIN9.out.below hba)
                      obtain ⟨ad, AB, cb, hA, hcellb, hbat⟩ := (H0.out.below HBA.out) y b HNB.out
                      subst hA
                      have hyn : (y : Int) < (n0 : Int) := by have := (List.getElem?_eq_some_iff.1 HNB.out).1; rw [HN0.out] at this; omega
                      have k1 := fun q => run_toString (P := Tryd.prog) (w := wa.drewN q) (ts := 9) Pl.byteTy strTy c (ho.bat.below (below_drewN (Below.refl _ _) q)) hkk
                      have k2 := fun q => run_toString (P := Tryd.prog) (w := wa.drewN q) (ts := 9) Pl.byteTy strTy cb (hbat.below (below_drewN (Below.refl _ _) q)) rfl
                      have k3 := run_toString (P := Tryd.prog) (w := wa) (ts := 9) Pl.byteTy strTy c ho.bat hkk
                      have k4 := run_toString (P := Tryd.prog) (w := wa) (ts := 9) Pl.byteTy strTy cb hbat rfl
                      generalize (⟨b.toArray⟩ : ByteArray) = S at k1 k2 k3 k4
                      clear ho hba hbat hcell HRD hkk
                      go_wp2_with fail
                      go_quiet (fail)
                      clear k1 k2 k3 k4 hcellb
                      go_wp2_with fail
                      go_roundw
                      case rel => exact ⟨y + 1, _, _, by omega, by simp, below_drewN HBA.out nq, HPA.out.below (below_drewN (Below.refl _ _) nq), HV9.out, HON9.out, HINA.out.below (below_drewN (Below.refl _ _) nq)⟩
                      case measure => simp [intOf]; omega
                    · rw [if_neg h5] at hat
                      rw [hat] at hcell
                      clear hat
                      go_wp2_with fail
                      go_roundw
                      case rel => exact ⟨y + 1, _, _, by omega, by simp, HB9.out, HP9.out, HV9.out, HON9.out, HIN9.out⟩
                      case measure => simp [intOf]; omega
                  · obtain rfl : y = j := by omega
                    have hyI : ¬ (y : Int) < (y : Int) := by omega
                    go_wp2_with fail
                    go_ret
                    exact ⟨rfl, HB9.out⟩
      · have hiI : ¬ (i : Int) < (n0 : Int) := by omega
        clear hgo
        go_wp2_with fail
        clear hal
        obtain ⟨w1, rfl⟩ : ∃ w1, w1 = wr := ⟨_, rfl⟩
        go_loopw [17, 18] (fun rv iv wr => KpR2 l0 i w1 rv iv wr) (fun _ iv _ => i - (intOf iv).toNat)
        case atStart => exact ⟨0, by omega, rfl, by unfold fitN; simp, rfl⟩
        case round =>
          obtain ⟨j, hj, rfl, rfl, rfl⟩ := hrel
          have hjc := fitN_le l0 j
          by_cases hlt : j < i
          · have hjI : (j : Int) < (i : Int) := by omega
            have hjl : j < l0.length := by omega
            obtain ⟨b, hb⟩ : ∃ b, l0[j]? = some b := ⟨_, List.getElem?_eq_getElem hjl⟩
            have hnx := fitN_next hb
            obtain ⟨gA, hA, hcell⟩ := HIN.out.cell2 (atsOf_get l0 hlt)
            subst hA
            have hat : atOf l0 j = if b.length ≤ 500 then (fitN l0 j : Int) else -1 := by unfold atOf; rw [List.getD_eq_getElem?_getD, hb]; rfl
            have HNX := Lib.hid hnx
            clear hb hnx
            obtain ⟨z, hz⟩ : ∃ z, atOf l0 j = z := ⟨_, rfl⟩
            obtain ⟨r, hr⟩ : ∃ r : Int, (fitN l0 j : Int) - 1 = r := ⟨_, rfl⟩
            rw [hz] at hcell hat
            rw [hr]
            by_cases hle : r < z
            · have HE : Hid (z = (fitN l0 (j + 1) : Int) - 1) := Lib.hid (by
                rw [HNX.out]
                split at hat
                · rename_i h5; rw [if_pos h5]; omega
                · rename_i h5; rw [if_neg h5]; omega)
              clear hat hz hr hjl hjc
              go_wp2_with fail
              go_roundw
              case rel => exact ⟨j + 1, by omega, by simp, by rw [HE.out], rfl⟩
              case measure => simp [intOf]; omega
            · have HE : Hid (r = (fitN l0 (j + 1) : Int) - 1) := Lib.hid (by
                rw [HNX.out]
                split at hat
                · rename_i h5; rw [if_pos h5]; omega
                · rename_i h5; rw [if_neg h5]; omega)
              clear hat hz hr hjl hjc
              go_wp2_with fail
              go_roundw
              case rel => exact ⟨j + 1, by omega, by simp, by rw [HE.out], rfl⟩
              case measure => simp [intOf]; omega
          · obtain rfl : j = i := by omega
            have hjI : ¬ (j : Int) < (j : Int) := by omega
            obtain ⟨c, hc⟩ : ∃ c, fitN l0 j = c := ⟨_, rfl⟩
            obtain ⟨ro, hro⟩ : ∃ ro : Int, (c : Int) - 1 = ro := ⟨_, rfl⟩
            rw [hc] at hjc HFC ⊢
            rw [hro]
            have HC := Lib.hid hc
            have HRO := Lib.hid hro
            have hmay : m.rootMay ro = true := by
              rw [← hro]
              unfold PgM.rootMay PgM.inUse
              rw [HMP.out, HFC.out.use]
              simp
              omega
            have HCM := Lib.hid (HP.out.commit HV.out HBW.out.size (by omega) HON.out HTW.out (by rw [HMG.out]; omega) ro)
            clear hc hro
            go_wp2_with fail
            refine HCM.out.mono ?_
            rintro e w5 ⟨pm5, H5, ws5, hm5, ⟨h, _⟩ | ⟨_, rfl, hon5, hfu5, hp5, hv5⟩ | ⟨_, _, _, hfz, _⟩⟩
            · rw [hmay] at h; cases h
            rotate_left
            · exact absurd HFU.out hfz
            have HB5 := Lib.hid (grow_below hm5 HP.out.lt HBW.out.size HBW.out)
            have HP5 := Lib.hid (hp5.more (show 2 + 8 * j + 3 ≤ 200 + 8 * 0 by omega))
            have HV5 := Lib.hid hv5
            have HON5 := Lib.hid hon5
            have HFU5 := Lib.hid (hfu5 HFU.out)
            have HIN5 := Lib.hid (HIN.out.mods hm5)
            have HWS5 : Hid (∀ p, hasB (m.commit ro).was p = decide (p < fitN l0 j)) := Lib.hid (fun p => by rw [HC.out]; exact HFC.out.use p)
            have HPG5 : Hid ((m.commit ro).pages = 50) := Lib.hid HMP.out
            have HRT5 : Hid ((m.commit ro).root = (fitN l0 j : Int) - 1) := Lib.hid (by rw [HC.out, HRO.out]; rfl)
            generalize m.commit ro = m5 at *
            clear hm5 hp5 hv5 hon5 hfu5 HCM hmay
            go_wp2_with fail
            go_loopw [20] (fun iv wr => KpR3 W l0 j n1 a g H5 T (.slice AV j cV) iv wr) (fun iv _ => n1 - (intOf iv).toNat)
            case atStart => exact ⟨0, _, _, _, _, _, by omega, rfl, HB5.out, HP5.out, HV5.out, HON5.out, HFU5.out, HPG5.out, HRT5.out, HWS5.out, HIN5.out⟩
            case round =>
              obtain ⟨q, K6, pm6, ws6, m6, T6, hq, rfl, hb6, hp6, hv6, hon6, hfu6, hmp6, hrt6, hws6, hin6⟩ := hrel
              have HB6 := Lib.hid hb6
              have HP6 := Lib.hid hp6
              have HV6 := Lib.hid hv6
              have HONR := Lib.hid hon6
              have HFUR := Lib.hid hfu6
              have HMPR := Lib.hid hmp6
              have HRTR := Lib.hid hrt6
              have HWSR := Lib.hid hws6
              have HIN6 := Lib.hid hin6
              clear hb6 hp6 hv6 hon6 hfu6 hmp6 hrt6 hws6 hin6
              by_cases hlt : q < n1
              · have hqI : (q : Int) < (n1 : Int) := by omega
                obtain ⟨r, hr⟩ : ∃ r, q / 3 = r := ⟨_, rfl⟩
                have hrI : (q : Int) / 3 = (r : Int) := by omega
                by_cases hm3 : q % 3 = 1
                · have hm3I : ((q : Int) % 3 == 1) = true := by rw [beq_iff_eq]; omega
                  by_cases hrk : r < j
                  · have hrkI : (r : Int) < (j : Int) := by omega
                    obtain ⟨gA, hA, hcell⟩ := HIN6.out.cell2 (atsOf_get l0 hrk)
                    subst hA
                    have HFR := Lib.hid (HP6.out.free HV6.out HB6.out.size (atOf l0 r))
                    clear hm3
                    go_wp2_with fail
                    refine HFR.out.mono ?_
                    rintro e w6 ⟨hm6, rfl, hp6, hv6⟩
                    have HB7 := Lib.hid (grow_below hm6 HP6.out.lt HB6.out.size HB6.out)
                    have HP7 := Lib.hid hp6
                    have HV7 := Lib.hid hv6
                    have HIN7 := Lib.hid (HIN6.out.mods hm6)
                    obtain ⟨e1, e2, e3⟩ := freeM_same m6 (atOf l0 r)
                    rw [← e1] at HMPR
                    rw [← e2] at HRTR
                    rw [← e3] at HWSR
                    generalize (freeM m6 (atOf l0 r)).1 = m7 at *
                    clear hm6 hp6 hv6 HFR hcell e1 e2 e3
                    obtain ⟨b, hb⟩ : ∃ b, l1[q]? = some b := ⟨_, List.getElem?_eq_getElem (by rw [HN1.out]; exact hlt)⟩
                    have hbl := HL1.out b (List.mem_of_getElem? hb)
                    obtain ⟨ad1, AB, cb, hA1, hcell1, hbat⟩ := (H1.out.below HB7.out) q b hb
                    subst hA1
                    have HPUT := Lib.hid (HP7.out.put HV7.out HB7.out.size (by omega) HONR.out (HT.out.below HB7.out (Nat.le_refl _)) AB b.length cb b hbat rfl (by omega))
                    clear hbat hb
                    go_wp2_with fail
                    refine HPUT.out.mono ?_
                    rintro e w7 ⟨pm7, ws7, hm7, ⟨rfl, hon7, hfu7, hp7, hv7⟩ | ⟨_, _, hfz, _⟩⟩
                    rotate_left
                    · exact absurd HFUR.out hfz
                    have HR7 := Lib.hid (⟨grow_below hm7 HP7.out.lt HB7.out.size HB7.out, hp7, hv7, hon7, hfu7 HFUR.out, HIN7.out.mods hm7⟩ : Below W.heap.size W w7 ∧ Pg1 W.heap.size w7 _ a pm7 _ 0 402 H5 ws7 g _ ∧ Inv 402 H5 ws7 _ _ T ∧ pm7.off = false ∧ pm7.fuse = none ∧ Ints W.heap.size w7 _ _ _)
                    clear hm7 hon7 hfu7 hp7 hv7 HPUT hcell1
                    go_wp2_with fail
                    go_roundw
                    case rel =>
                      obtain ⟨h1, h2, h3, h4, h5, h6⟩ := HR7.out
                      obtain ⟨e1, e2, e3, e4⟩ := putM_pages m7 T6 b
                      exact ⟨q + 1, _, pm7, ws7, _, _, by rw [HN1.out] at *; omega, by simp, h1, h2.more (by omega), h3, h4, h5, by rw [e1]; exact HMPR.out, by rw [e4]; exact HRTR.out, by rw [e3]; exact HWSR.out, h6⟩
                    case measure => simp [intOf]; omega
                  · have hrkI : ¬ (r : Int) < (j : Int) := by omega
                    clear hm3
                    obtain ⟨b, hb⟩ : ∃ b, l1[q]? = some b := ⟨_, List.getElem?_eq_getElem (by rw [HN1.out]; exact hlt)⟩
                    have hbl := HL1.out b (List.mem_of_getElem? hb)
                    obtain ⟨ad1, AB, cb, hA1, hcell1, hbat⟩ := (H1.out.below HB6.out) q b hb
                    subst hA1
                    have HPUT := Lib.hid (HP6.out.put HV6.out HB6.out.size (by omega) HONR.out (HT.out.below HB6.out (Nat.le_refl _)) AB b.length cb b hbat rfl (by omega))
                    clear hbat hb
                    go_wp2_with fail
                    refine HPUT.out.mono ?_
                    rintro e w7 ⟨pm7, ws7, hm7, ⟨rfl, hon7, hfu7, hp7, hv7⟩ | ⟨_, _, hfz, _⟩⟩
                    rotate_left
                    · exact absurd HFUR.out hfz
                    have HR7 := Lib.hid (⟨grow_below hm7 HP6.out.lt HB6.out.size HB6.out, hp7, hv7, hon7, hfu7 HFUR.out, HIN6.out.mods hm7⟩ : Below W.heap.size W w7 ∧ Pg1 W.heap.size w7 _ a pm7 _ 0 402 H5 ws7 g _ ∧ Inv 402 H5 ws7 _ _ T ∧ pm7.off = false ∧ pm7.fuse = none ∧ Ints W.heap.size w7 _ _ _)
                    clear hm7 hon7 hfu7 hp7 hv7 HPUT hcell1
                    go_wp2_with fail
                    go_roundw
                    case rel =>
                      obtain ⟨h1, h2, h3, h4, h5, h6⟩ := HR7.out
                      obtain ⟨e1, e2, e3, e4⟩ := putM_pages m6 T6 b
                      exact ⟨q + 1, _, pm7, ws7, _, _, by rw [HN1.out] at *; omega, by simp, h1, h2.more (by omega), h3, h4, h5, by rw [e1]; exact HMPR.out, by rw [e4]; exact HRTR.out, by rw [e3]; exact HWSR.out, h6⟩
                    case measure => simp [intOf]; omega
                · have hm3I : ((q : Int) % 3 == 1) = false := by rw [beq_eq_false_iff_ne]; omega
                  clear hm3
                  obtain ⟨b, hb⟩ : ∃ b, l1[q]? = some b := ⟨_, List.getElem?_eq_getElem (by rw [HN1.out]; exact hlt)⟩
                  have hbl := HL1.out b (List.mem_of_getElem? hb)
                  obtain ⟨ad1, AB, cb, hA1, hcell1, hbat⟩ := (H1.out.below HB6.out) q b hb
                  subst hA1
                  have HPUT := Lib.hid (HP6.out.put HV6.out HB6.out.size (by omega) HONR.out (HT.out.below HB6.out (Nat.le_refl _)) AB b.length cb b hbat rfl (by omega))
                  clear hbat hb
                  go_wp2_with fail
                  refine HPUT.out.mono ?_
                  rintro e w7 ⟨pm7, ws7, hm7, ⟨rfl, hon7, hfu7, hp7, hv7⟩ | ⟨_, _, hfz, _⟩⟩
                  rotate_left
                  · exact absurd HFUR.out hfz
                  have HR7 := Lib.hid (⟨grow_below hm7 HP6.out.lt HB6.out.size HB6.out, hp7, hv7, hon7, hfu7 HFUR.out, HIN6.out.mods hm7⟩ : Below W.heap.size W w7 ∧ Pg1 W.heap.size w7 _ a pm7 _ 0 402 H5 ws7 g _ ∧ Inv 402 H5 ws7 _ _ T ∧ pm7.off = false ∧ pm7.fuse = none ∧ Ints W.heap.size w7 _ _ _)
                  clear hm7 hon7 hfu7 hp7 hv7 HPUT hcell1
                  go_wp2_with fail
                  go_roundw
                  case rel =>
                    obtain ⟨h1, h2, h3, h4, h5, h6⟩ := HR7.out
                    obtain ⟨e1, e2, e3, e4⟩ := putM_pages m6 T6 b
                    exact ⟨q + 1, _, pm7, ws7, _, _, by rw [HN1.out] at *; omega, by simp, h1, h2.more (by omega), h3, h4, h5, by rw [e1]; exact HMPR.out, by rw [e4]; exact HRTR.out, by rw [e3]; exact HWSR.out, h6⟩
                  case measure => simp [intOf]; omega
              · obtain rfl : q = n1 := by omega
                have hqI : ¬ (q : Int) < (q : Int) := by omega
                have HBT := Lib.hid (HP6.out.plant.boot HB6.out.size (by omega) KA kn kc keep (HK.out.below HB6.out) HKL.out (fun hne ad e hKd => by have h1 := HKW.out hne ad e; have h2 := (HP6.out.lt _ hKd).1; omega) hkm)
                go_wp2_with fail
                refine HBT.out.mono ?_
                rintro e w7 ⟨pm7, vs7, rfl, hon7, hfu7, hsub, hpd7, hm7⟩
                have HB7 := Lib.hid (grow_below hm7 HP6.out.lt HB6.out.size HB6.out)
                have HON7 := Lib.hid hon7
                have HPD7 := Lib.hid hpd7
                have HV7 := Lib.hid (HV6.out.sub hsub)
                have HIN7 := Lib.hid (HIN6.out.mods hm7)
                have HT7 := Lib.hid (HT.out.below HB7.out (Nat.le_refl _))
                have HOP := Lib.hid (hpd7.opened HV7.out HB7.out.size (by omega) hon7 HT7.out (b402.trans HMPR.out.symm))
                clear hon7 hfu7 hsub hpd7 hm7 HBT
                go_wp2_with fail
                refine HOP.out.mono ?_
                rintro e w8 ⟨g8, rfl, hp8, hv8, hb8⟩
                have HB8 := Lib.hid (HB7.out.trans (hb8.mono HB7.out.size))
                have HP8 := Lib.hid hp8
                have HV8 := Lib.hid hv8
                have HIN8 := Lib.hid ((HIN7.out.mods (Mods.of_below hb8)))
                have hrt := hp8.root
                rw [show m6.drop.drop.root = m6.root from rfl, HRTR.out] at hrt
                have HRT8 := Lib.hid hrt
                have HUSE : Hid (∀ p, hasB m6.drop.drop.use p = decide (p < fitN l0 j)) := Lib.hid HWSR.out
                have HPG8 : Hid (m6.drop.drop.pages = 50) := Lib.hid HMPR.out
                generalize m6.drop.drop = m8 at *
                clear hp8 hv8 hb8 HOP hrt
                go_wp2_with fail
                refine HRT8.out.mono ?_
                rintro e _ ⟨rfl, rfl⟩
                have hbeq : (((fitN l0 j : Int) - 1 != ro) : Bool) = false := by have := HC.out; have := HRO.out; simp; omega
                go_wp2_with fail
                go_loopw [21] (fun iv wr => KpR4 W l0 j a g8 (200 + 8 * q + 1) _ _ m8 T T (.slice AV j cV) iv wr) (fun iv _ => j - (intOf iv).toNat)
                case atStart => exact ⟨0, _, _, by omega, rfl, HB8.out, HP8.out, HV8.out, HON7.out, HIN8.out⟩
                case round =>
                  obtain ⟨y, K9, pm9, hy, rfl, hb9, hp9, hv9, hon9, hin9⟩ := hrel
                  have HB9 := Lib.hid hb9
                  have HP9 := Lib.hid hp9
                  have HV9 := Lib.hid hv9
                  have HON9 := Lib.hid hon9
                  have HIN9 := Lib.hid hin9
                  clear hb9 hp9 hv9 hon9 hin9
                  by_cases hlt : y < j
                  · have hyI : (y : Int) < (j : Int) := by omega
                    obtain ⟨b, hb⟩ : ∃ b, l0[y]? = some b := ⟨_, List.getElem?_eq_getElem (by omega)⟩
                    obtain ⟨gA, hA, hcell⟩ := HIN9.out.cell2 (atsOf_get l0 hlt)
                    subst hA
                    have hat : atOf l0 y = if b.length ≤ 500 then (fitN l0 y : Int) else -1 := by unfold atOf; rw [List.getD_eq_getElem?_getD, hb]; rfl
                    have HNB := Lib.hid hb
                    clear hb
                    by_cases h5 : b.length ≤ 500
                    · rw [if_pos h5] at hat
                      rw [hat] at hcell
                      obtain ⟨z, hz⟩ : ∃ z, fitN l0 y = z := ⟨_, rfl⟩
                      have hzl : z < fitN l0 j := by rw [← hz]; exact fitN_lt hlt HNB.out h5
                      have hTz : T z = b := by rw [← hz]; exact HTX.out y b hlt HNB.out h5
                      have hfl := fitN_le l0 j
                      have hin8 : m8.inUse (z : Int) = true := by unfold PgM.inUse; rw [HPG8.out, HUSE.out]; simp; omega
                      rw [hz] at hcell
                      have hz0 : ¬ (z : Int) < 0 := by omega
                      have hrd := HP9.out.read HV9.out HB9.out.size (by omega) HON9.out (HT.out.below HB9.out (Nat.le_refl _)) (z : Int)
                      rw [hin8] at hrd
                      simp only [if_true, Int.toNat_natCast, hTz] at hrd
                      have HRD := Lib.hid hrd
                      clear hrd hTz hin8 hz hat hzl hfl
                      go_wp2_with fail
                      refine HRD.out.mono ?_
                      rintro e wa ⟨A, kk, c, rfl, ho, hba⟩
                      have hkk : b.length = kk := ho.len
                      have HBA := Lib.hid (HB9.out.trans (hba.mono HB9.out.size))
                      have HPA := Lib.hid (HP9.out.below hba)
                      have HINA := Lib.hid (HIN9.out.below hba)
                      obtain ⟨ad, AB, cb, hA, hcellb, hbat⟩ := (H0.out.below HBA.out) y b HNB.out
                      subst hA
                      have hyn : (y : Int) < (n0 : Int) := by have := (List.getElem?_eq_some_iff.1 HNB.out).1; rw [HN0.out] at this; omega
                      have k1 := fun q => run_toString (P := Tryd.prog) (w := wa.drewN q) (ts := 9) Pl.byteTy strTy c (ho.bat.below (below_drewN (Below.refl _ _) q)) hkk
                      have k2 := fun q => run_toString (P := Tryd.prog) (w := wa.drewN q) (ts := 9) Pl.byteTy strTy cb (hbat.below (below_drewN (Below.refl _ _) q)) rfl
                      have k3 := run_toString (P := Tryd.prog) (w := wa) (ts := 9) Pl.byteTy strTy c ho.bat hkk
                      have k4 := run_toString (P := Tryd.prog) (w := wa) (ts := 9) Pl.byteTy strTy cb hbat rfl
                      generalize (⟨b.toArray⟩ : ByteArray) = S at k1 k2 k3 k4
                      clear ho hba hbat hcell HRD hkk
                      go_wp2_with fail
                      go_quiet (fail)
                      clear k1 k2 k3 k4 hcellb
                      go_wp2_with fail
                      go_roundw
                      case rel => exact ⟨y + 1, _, _, by omega, by simp, below_drewN HBA.out nq, HPA.out.below (below_drewN (Below.refl _ _) nq), HV9.out, HON9.out, HINA.out.below (below_drewN (Below.refl _ _) nq)⟩
                      case measure => simp [intOf]; omega
                    · rw [if_neg h5] at hat
                      rw [hat] at hcell
                      clear hat
                      go_wp2_with fail
                      go_roundw
                      case rel => exact ⟨y + 1, _, _, by omega, by simp, HB9.out, HP9.out, HV9.out, HON9.out, HIN9.out⟩
                      case measure => simp [intOf]; omega
                  · obtain rfl : y = j := by omega
                    have hyI : ¬ (y : Int) < (y : Int) := by omega
                    go_wp2_with fail
                    go_ret
                    exact ⟨rfl, HB9.out⟩
end Go.Proofs.YtookhagpgkefpaaDoor.Pag
