/- The law 'ColdvolRots'. -/
import Derived.Test.YtloffgoenaomkaaDoorFold36
import Derived.Test.YtloffgoenaomkaaDoorColApart
import Derived.Lib.SlBytesConst
import Derived.BigRegion
namespace Go.Proofs.YtloffgoenaomkaaDoor.Col
open Go Go.RowKit Mem Pl Disk Crc _root_.Go.Proofs.YtloffgoenaomkaaDoor.Frame Hash Sha
def RoR1 (W : World) (l0 : List (List UInt8)) (a g : Nat) (x : PlV) (iv : Value) (wr : World) : Prop :=
  ∃ (i : Nat) (F : Nat → Prop) (pm : PM), i ≤ l0.length ∧ i ≤ 30 ∧ iv = .int .i64 (i : Int) ∧ Below W.heap.size W wr ∧ Rw W.heap.size wr F a pm (12 + i) 60 (3 + i) ∧ Kp wr F g 35 (pvC x).toArray
def RoR2 (W : World) (n1 a g : Nat) (x : PlV) (iv : Value) (wr : World) : Prop :=
  ∃ (i : Nat) (F : Nat → Prop) (pm : PM), i ≤ n1 ∧ iv = .int .i64 (i : Int) ∧ Below W.heap.size W wr ∧ Rw W.heap.size wr F a pm 50 60 60 ∧ Kp wr F g 35 (pvC x).toArray
def RoR3 (ws : World) (n : Nat) (iv : Value) (wr : World) : Prop := ∃ i : Nat, i ≤ n ∧ i ≤ 60 ∧ iv = .int .i64 (i : Int) ∧ Below ws.heap.size ws wr
def someB : List UInt8 := [115, 111, 109, 101, 32, 98, 121, 116, 101, 115]
theorem ro_may : mayT 60 [] none [97] someB = 0 := by
  unfold mayT
  rw [nm_a]
  rfl
theorem ro_x : xA 0 60 [] none [97] someB = placeV 0 0 3 false := by
  unfold xA
  rw [ro_may]
  rfl
theorem ro_os : osA 60 [] none [97] someB = [(0, [97], someB)] := by
  unfold osA
  rw [ro_may]
  rfl
theorem ro_len : lenT [(0, [97], someB)] none ≤ 3 := by
  unfold lenT
  rw [show [(0, [97], someB)] = ([] : List (Nat × List UInt8 × List UInt8)) ++ [(0, [97], someB)] from rfl, layB_snoc, List.length_append, putM_len]
  decide
set_option maxRecDepth 100000 in
set_option maxHeartbeats 16000000 in
theorem lawRots (A0 A1 A2 : Option Addr) (n0 n1 n2 c0 c1 c2 : Nat) (l0 : List (List UInt8)) (pl : List PlV) (ts : List Tri) (W : World) (htb : Tb W.heap.size W) (h0 : RowsAt W A0 l0) (hn0 : l0.length = n0) (h1 : PlsV W A1 pl) (hn1 : pl.length = n1) (h2 : TrisAt W A2 ts) (hn2 : ts.length = n2)
    (hm1 : n1 ≤ 100000000) (hm2 : n2 ≤ 100000000) (hL0 : ∀ b ∈ l0, b.length ≤ 100000000) (hy : ∀ p ∈ pl, p.2.1 < 9223372036854775808) :
    Calls Tryd.prog 6 #[.slice A0 n0 c0, .slice A1 n1 c1, .slice A2 n2 c2] W fun e W' => e = .returned (.bool true) ∧ Below W.heap.size W W' := by
  have HT := Lib.hid htb
  have H0 := Lib.hid h0
  have H1 := Lib.hid h1
  have H2 := Lib.hid h2
  have HN := Lib.hid (⟨hn0, hn1, hn2, hL0, hy⟩ : _ ∧ _ ∧ _ ∧ _ ∧ _)
  have HM := Lib.hid (⟨hm1, hm2⟩ : _ ∧ _)
  have HSH := Lib.hid (shown_any W htb)
  clear htb h0 h1 h2 hn0 hn1 hn2 hL0 hy hm1 hm2
  go_enter Tryd.func6, Tryd.ntmps6
  go_wp2_with fail
  refine HSH.out.mono ?_
  rintro e w0 ⟨rfl, hb0⟩
  have HB0 := Lib.hid hb0
  have HMD := Lib.hid (made_tapes (w := w0) (B := W.heap.size) hb0.size (HT.out.below hb0) [60] 1 rfl (by simp) (by omega) (by omega))
  clear hb0 HSH
  go_wp2_with fail
  refine HMD.out.mono ?_
  rintro e w1 ⟨a, F1, pm, rfl, hu, hF, ht, _, _, hb1⟩
  have HUP := Lib.hid hu
  have HTA := Lib.hid (ht 0 60 rfl)
  have HB1 := Lib.hid (HB0.out.trans (hb1.mono HB0.out.size))
  have HOP := Lib.hid (HUP.out.opened HTA.out)
  clear hu hF ht hb1 HMD HB0
  go_wp2_with fail
  refine HOP.out.mono ?_
  rintro e w2 ⟨hb2, v, rfl, hv2, hvb⟩
  have HB2 := Lib.hid (HB1.out.trans (hb2.mono HB1.out.size))
  have HUP2 := Lib.hid (HUP.out.below hb2)
  have HV2 := Lib.hid hvb
  clear hb2 hv2 hvb HUP HB1 HOP
  have hcv := fun (w : World) (C : Array Value) (n c : Nat) => Lib.run_convert_bytes_const (P := Tryd.prog) w 38 5 C n c Tryd.underlying38 Tryd.underlying5
  go_wp2_with fail
  have hba := below_al' (w := w2) (.cells #[.int .u8 115, .int .u8 111, .int .u8 109, .int .u8 101, .int .u8 32, .int .u8 98, .int .u8 121, .int .u8 116, .int .u8 101, .int .u8 115] 5 (10, 11))
  have HUA := Lib.hid (HUP2.out.below hba)
  have HBA := Lib.hid (HB2.out.trans (hba.mono HB2.out.size))
  have hap := HUA.out.append HTA.out (HV2.out.below hba) (by omega) [97] (by decide) (some ⟨w2.heap.size, 0, none⟩) 10 10 someB (BAt.new _ _ _ _ (by rfl)) rfl (Nat.le_refl _) (by omega) (fun h => by cases h)
  rw [ro_may, ro_x, ro_os] at hap
  have HAP := Lib.hid hap
  clear hba hap hcv HUP2 HB2 HV2
  refine HAP.out.mono ?_
  rintro e w3 ⟨F3, pm3, hf3, hu3, hv3, ht3, rfl⟩
  have HB3 := Lib.hid (HBA.out.trans (hf3.low (fun g hg => (HUA.out.st.lt g hg).1) HUA.out.bs))
  have HR3 := Lib.hid (Rw.of_up hu3 ht3 ro_len)
  clear hf3 hu3 hv3 ht3 HAP HUA HBA HTA
  rw [show placeV 0 0 3 false = .agg (pcV 0 0 3).toArray from rfl, show ((0 : Nat) : Int) = 0 from rfl]
  go_wp2_with
    (refine wpList_store_all rfl 35 (.tmp 12) (.tmp 56) rfl w3.heap.size 35 (pcV 0 0 0) (pcV 0 0 3) rfl rfl (Blk.new w3 _ _) rfl (by kernel_rfl) (pcV_one _ _ _) ?_
     intro w4 hb4 hg4 hz4
     have hbw4 : Below w3.heap.size w3 w4 := (below_al' (w := w3) (.cells (pcV 0 0 0).toArray 35)).grown hg4 (by simp) (fun k hk => by injection hk with hk; omega)
     have HR4 := Lib.hid (HR3.out.below hbw4)
     have HB4 := Lib.hid (HB3.out.trans (hbw4.mono HR3.out.up.bs))
     have HK4 : Hid (Kp w4 F3 w3.heap.size 35 (pvC (0, 0, 3, false)).toArray) := Lib.hid ⟨hb4, fun h => by have := (HR3.out.up.st.lt _ h).2; omega⟩
     clear hb4 hg4 hz4 hbw4 HR3 HB3)
  go_loopw [14] (fun iv wr => RoR1 W l0 a w3.heap.size (0, 0, 3, false) iv wr) (fun iv _ => 30 - (intOf iv).toNat)
  case atStart => exact ⟨0, F3, pm3, Nat.zero_le _, by omega, rfl, HB4.out, HR4.out, HK4.out⟩
  case round =>
    obtain ⟨i, F, pm5, hi, hi30, rfl, hbw, hrw, hkp⟩ := hrel
    have HBW := Lib.hid hbw
    have HRW := Lib.hid hrw
    have HKP := Lib.hid hkp
    clear hbw hrw hkp HB4 HR4 HK4
    by_cases hgo : i < n0 ∧ i < 30
    · obtain ⟨hlt, hlt7⟩ := hgo
      have hltI : (i : Int) < (n0 : Int) := by omega
      have hlt7I : (i : Int) < 30 := by omega
      have hi1 : IntKind.i64.wrap ((i : Int) + 1) = (i : Int) + 1 := IntWalk.i64_in _ (by omega)
      obtain ⟨b, hb⟩ : ∃ b, l0[i]? = some b := ⟨_, List.getElem?_eq_getElem (by rw [HN.out.1]; exact hlt)⟩
      have hba := below_al' (w := wr) (.cells (zeros.map B8).toArray 5)
      have HBA := Lib.hid (HBW.out.trans (hba.mono HBW.out.size))
      have hka : Blk (wr.alloc (.cells (zeros.map B8).toArray 5)) wr.heap.size 5 (cellsOf zeros) := Blk.new wr 5 (zeros.map B8).toArray
      obtain ⟨ad, AB, cb, hA, hcell, hbat, hbc, hbn⟩ := (H0.out.below HBA.out) i b hb
      subst hA
      have HX := Lib.hid (⟨hka, hbat, hbn, hba⟩ : _ ∧ _ ∧ _ ∧ _)
      have HBL := Lib.hid (HN.out.2.2.2.1 b (List.mem_of_getElem? hb))
      have hmk := run_make64
      obtain ⟨q, hq⟩ : ∃ q, Nat.min b.length 64 = q := ⟨_, rfl⟩
      have hq64 : q ≤ 64 := by rw [← hq]; exact Nat.min_le_right _ _
      have hqb : q ≤ b.length := by rw [← hq]; exact Nat.min_le_left _ _
      clear hb hka hbat hbn hba
      go_wp2_with
        (refine wpList_copy_bytes rfl (.tmp 69) (.tmp 73) _ rfl 5 Pl.byteTy wr.heap.size 0 64 64 5 zeros rfl HX.out.1 AB b.length cb b rfl HX.out.2.1 rfl q hq.symm (by rw [zeros_len]; omega) HX.out.2.2.1 ?_
         intro w6 hk6 hg6 hs6
         have HK6 := Lib.hid hk6
         have HBW6 : Hid (Below wr.heap.size wr w6) := Lib.hid (HX.out.2.2.2.grown hg6 HX.out.2.2.2.size (fun k hk => by injection hk with hk; omega))
         clear hk6 hg6 hs6)
      have HAP := Lib.hid ((HRW.out.below HBW6.out).append (by omega) (by omega) (some ⟨wr.heap.size, 0, none⟩) 64 _ HK6.out.bat (by simp [zeros_len, List.length_take]; omega))
      refine HAP.out.mono ?_
      rintro e w7 ⟨F7, pm7, k7, rfl, hr7, hb7, hk7⟩
      have HR7 := Lib.hid (⟨hr7, HBW.out.trans ((HBW6.out.mono HBW.out.size).trans hb7), hk7 _ _ _ (HKP.out.below HBW6.out)⟩ : _ ∧ _ ∧ _)
      clear hr7 hb7 hk7 HAP hmk hq
      go_wp2_with fail
      go_roundw
      case rel => exact ⟨i + 1, F7, pm7, by have := HN.out.1; omega, hlt7, by simp, HR7.out.2.1, HR7.out.1.more (by omega) (by omega), HR7.out.2.2⟩
      case measure => simp [intOf]; omega
    · have hex : ((i : Int) < (n0 : Int) ∧ ¬ (i : Int) < 30) ∨ ¬ (i : Int) < (n0 : Int) := by have := HN.out.1; omega
      have HI7 := Lib.hid hi30
      clear hgo hi hi30
      rcases hex with ⟨hltI, hge⟩ | hltI
      all_goals
        have HFL := Lib.hid (HRW.out.flush (by have := HI7.out; omega))
        go_wp2_with fail
        refine HFL.out.mono ?_
        rintro e w6 ⟨F6, pm6, rfl, hr6, hb6, hk6⟩
        have HR6 := Lib.hid (⟨hr6.more (show 12 + i + 1 ≤ 50 by have := HI7.out; omega) (show 3 + i ≤ 60 by have := HI7.out; omega), HBW.out.trans hb6, hk6 _ _ _ HKP.out⟩ : _ ∧ _ ∧ _)
        clear hr6 hb6 hk6 HFL
        go_wp2_with fail
        go_loopw [17] (fun iv wr => RoR2 W n2 a w3.heap.size (0, 0, 3, false) iv wr) (fun iv _ => n2 - (intOf iv).toNat)
        case atStart => exact ⟨0, F6, pm6, Nat.zero_le _, rfl, HR6.out.2.1, HR6.out.1, HR6.out.2.2⟩
        case round =>
          obtain ⟨j, F8, pm8, hj, rfl, hb8, hr8, hk8⟩ := hrel
          have HR8 := Lib.hid (⟨hr8, hb8, hk8⟩ : _ ∧ _ ∧ _)
          clear hr8 hb8 hk8
          by_cases hlt : j < n2
          · have hjI : (j : Int) < (n2 : Int) := by omega
            have hj1 : IntKind.i64.wrap ((j : Int) + 1) = (j : Int) + 1 := IntWalk.i64_in _ (by have := HM.out.2; omega)
            obtain ⟨t, ht⟩ : ∃ t, ts[j]? = some t := ⟨_, List.getElem?_eq_getElem (by rw [HN.out.2.2.1]; exact hlt)⟩
            obtain ⟨ad, hA, x0, x1, x2⟩ := (H2.out.below HR8.out.2.1) j t ht
            subst hA
            have hbd : Below wr.heap.size wr wr.drew := below_drewN (Below.refl _ wr) 1
            have HRT := Lib.hid ((HR8.out.1.below hbd).rot t.1 t.2.1 t.2.2)
            have HBD := Lib.hid hbd
            clear ht hbd
            go_wp2_with fail
            refine Ord.region_ord [] [0, 1, 2, 3, 4, 5, 6, 7, 8, 9, 10, 11, 12, 13, 14, 15, 16] (by kernel_rfl) (by kernel_rfl) (by kernel_rfl) (by kernel_rfl) (Ord.ord_all [_, _, _, _, _, _, _, _, _, _, _, _, _, _, _, _, _] rfl (by kernel_rfl) ?_)
            go_wp2_with fail
            refine HRT.out.mono ?_
            rintro e w9 ⟨vv, F9, pm9, rfl, hr9, hb9, hk9⟩
            have HR9 := Lib.hid (⟨hr9, (HR8.out.2.1.trans (HBD.out.mono HR8.out.2.1.size)).trans hb9, hk9 _ _ _ (HR8.out.2.2.below HBD.out)⟩ : _ ∧ _ ∧ _)
            clear hr9 hb9 hk9 HRT x0 x1 x2
            go_wp2_with fail
            refine Ord.nx_end ?_
            go_wp2_with fail
            go_roundw
            case rel => exact ⟨j + 1, F9, pm9, hlt, by simp, HR9.out.2.1, HR9.out.1, HR9.out.2.2⟩
            case measure => simp [intOf]; omega
          · have hjI : ¬ (j : Int) < (n2 : Int) := by omega
            have HOP := Lib.hid HR8.out.1.opened
            clear hlt hj
            go_wp2_with fail
            refine HOP.out.mono ?_
            rintro e w9 ⟨hb9, v9, rfl, hv9⟩
            have HR9 := Lib.hid (⟨HR8.out.1.below hb9, HR8.out.2.1.trans (hb9.mono HR8.out.1.up.bs), HR8.out.2.2.below hb9, hv9⟩ : _ ∧ _ ∧ _ ∧ _)
            clear hb9 hv9 HOP HR8
            have hk9 := HR9.out.2.2.1.1
            have p0 := hk9.cell 0
            have p1 := hk9.cell 1
            have p2 := hk9.cell 2
            have p3 := hk9.cell 3
            simp [pvC] at p0 p1 p2 p3
            clear hk9
            have hba := below_al' (w := w9) (.cells #[.int .i64 0, .int .i64 0, .int .i64 3, .bool false] 35)
            have hva : Vec (w9.alloc (.cells #[.int .i64 0, .int .i64 0, .int .i64 3, .bool false] 35)) (fun g => w9.heap.size ≤ g) 35 4 (.slice (some ⟨w9.heap.size, 0, none⟩) 1 1) ([(0, 0, 3, false)] : List PlV).length (flatP [(0, 0, 3, false)]) := Vec.of_blk (Blk.new w9 _ _) (Nat.le_refl _) rfl (by decide)
            have HVA := Lib.hid (⟨hva, hba, H1.out.below (HR9.out.2.1.trans (hba.mono HR9.out.1.up.bs))⟩ : _ ∧ _ ∧ _)
            have hm1 := HM.out.1
            clear hba hva
            go_wp2_with
              (refine wpList_append_places rfl (.tmp 121) (.tmp 122) rfl rfl HVA.out.1 A1 n1 c1 pl rfl HN.out.2.1 HVA.out.2.2 (by simp; omega) ?_
               intro v10 w10 hv10 hm10
               obtain ⟨L1, hL1⟩ : ∃ L1, ([(0, 0, 3, false)] : List PlV) ++ pl = L1 := ⟨_, rfl⟩
               rw [hL1] at hv10
               have HL1 := Lib.hid hL1
               have HS10 : Hid (L1.length = 1 + n1) := Lib.hid (by rw [← hL1, List.length_append, HN.out.2.1]; rfl)
               have HB10 := Lib.hid (HVA.out.2.1.trans ((hm10.mono HVA.out.2.1.size (fun k hk h => h)).below fun k hk h => by omega))
               have HV10 := Lib.hid (hv10.mono (G := fun g => w9.heap.size ≤ g) fun g _ hg => by
                 rcases hg with hg | hg
                 · exact hg
                 · have := hg.1; simp at this; omega)
               obtain ⟨A10, c10, rfl⟩ := hv10.shape
               clear hv10 hm10 hL1)
            have hL1 := HL1.out
            have HY1 : Hid (∀ p ∈ L1, p.2.1 < 9223372036854775808) := Lib.hid (by
              rw [← hL1]
              intro p hp
              rcases List.mem_append.1 hp with hp | hp
              · rw [List.mem_singleton.1 hp]; show (0 : Int) < _; omega
              · exact HN.out.2.2.2.2 p hp)
            have HR10 := Lib.hid (⟨HR9.out.1.below HB10.out, HR9.out.2.1.trans (HB10.out.mono HR9.out.1.up.bs), HR9.out.2.2.2.below HB10.out⟩ : _ ∧ _ ∧ _)
            have HLI := Lib.hid (HR10.out.1.list HR10.out.2.2 (by omega))
            clear hL1 HVA p0 p1 p2 p3
            refine HLI.out.mono ?_
            rintro e w11 ⟨hb11, A11, c11, l2, rfl, hl2, hy2, hv11⟩
            rw [placesV_flatP] at hv11
            obtain ⟨L2, hL2⟩ : ∃ L2 : List PlV, (l2.map fun x => (((0 : Nat) : Int), (x.1 : Int), ((2 + dataN x.2.2.length : Nat) : Int), false)) = L2 := ⟨_, rfl⟩
            rw [hL2] at hv11
            have hll : L2.length = l2.length := by rw [← hL2, List.length_map]
            have HY2 : Hid (∀ p ∈ L2, p.2.1 < 9223372036854775808) := Lib.hid (by
              rw [← hL2]
              intro p hp
              obtain ⟨o, ho, rfl⟩ := List.mem_map.1 hp
              have := hy2 o ho
              show (o.1 : Int) < _
              omega)
            obtain ⟨m2, hm2⟩ : ∃ m2, l2.length = m2 := ⟨_, rfl⟩
            rw [hm2] at hv11 hll hl2 ⊢
            have HX11 := Lib.hid (⟨plsV_of_vec hv11 hll, hll, HV10.out.below hb11, hb11⟩ : _ ∧ _ ∧ _ ∧ _)
            have hsz := HB10.out.size
            have hlb : L1.length ≤ 200000000 := by have := HS10.out; omega
            clear hL2 hy2 hv11 hm2 hll hb11 HLI HV10
            go_wp2_with
              (refine wpList_append_places rfl (.tmp 123) (.tmp 125) rfl rfl HX11.out.2.2.1 A11 m2 c11 L2 rfl HX11.out.2.1 HX11.out.1 (by omega) ?_
               intro v12 w12 hv12 hm12
               obtain ⟨L, hL⟩ : ∃ L, L1 ++ L2 = L := ⟨_, rfl⟩
               rw [hL] at hv12
               obtain ⟨n, hn⟩ : ∃ n, L.length = n := ⟨_, rfl⟩
               rw [hn] at hv12
               have HLL := Lib.hid (⟨hL, hn⟩ : _ ∧ _)
               have HB12 := Lib.hid ((HB10.out.trans (HX11.out.2.2.2.mono HB10.out.size)).trans ((hm12.mono (B' := w9.heap.size) (Nat.le_trans HB10.out.size HX11.out.2.2.2.size) (fun k hk h => h)).below fun k hk h => by omega))
               obtain ⟨A12, c12, rfl⟩ := hv12.shape
               have HV12 := Lib.hid hv12
               clear hv12 hm12 hL hn)
            have hL := HLL.out.1
            have HY : Hid (∀ p ∈ L, p.2.1 < 9223372036854775808) := Lib.hid (by
              rw [← hL]
              intro p hp
              rcases List.mem_append.1 hp with hp | hp
              · exact HY1.out p hp
              · exact HY2.out p hp)
            have HR12 := Lib.hid (⟨HR9.out.1.below HB12.out, HR9.out.2.1.trans (HB12.out.mono HR9.out.1.up.bs), HR9.out.2.2.2.below HB12.out⟩ : _ ∧ _ ∧ _)
            have HNN := Lib.hid HLL.out.2
            clear hL hlb hsz hl2 hm1 HX11 HS10 HR10
            go_wp2_with fail
            go_loopw [19] (fun iv wr => RoR3 w12 n iv wr) (fun iv _ => 60 - (intOf iv).toNat)
            case atStart => exact ⟨0, Nat.zero_le _, by omega, rfl, Below.refl _ _⟩
            case round =>
              obtain ⟨k, hk, hk60, rfl, hb13⟩ := hrel
              have HB13 := Lib.hid hb13
              have HR13 := Lib.hid (⟨HR12.out.1.below hb13, HR12.out.2.1.trans (hb13.mono HR12.out.1.up.bs), HR12.out.2.2.below hb13⟩ : _ ∧ _ ∧ _)
              have hk1 : IntKind.i64.wrap ((k : Int) + 1) = (k : Int) + 1 := IntWalk.i64_in _ (by omega)
              clear hb13
              by_cases hgo2 : k < n ∧ k < 60
              · obtain ⟨hkn, hk6⟩ := hgo2
                have hknI : (k : Int) < (n : Int) := by omega
                have hk6I : (k : Int) < 60 := by omega
                obtain ⟨p, hp⟩ : ∃ p, L[k]? = some p := ⟨_, List.getElem?_eq_getElem (by rw [HNN.out]; exact hkn)⟩
                have hpy := HY.out p (List.mem_of_getElem? hp)
                obtain ⟨g, hA, hrg⟩ := flatP_at (HV12.out.below HB13.out) hp HNN.out
                subst hA
                have HRG := Lib.hid hrg
                have HRD := Lib.hid (HR13.out.1.read HR13.out.2.2 (by omega) p.1 p.2.1 p.2.2.1 p.2.2.2 hpy)
                clear hrg hp hpy
                go_wp2_with
                  (refine wpList_load_mid rfl 35 (.tmp 141) rfl g (k * 4) rfl [.int .i64 p.1, .int .i64 p.2.1, .int .i64 p.2.2.1, .bool p.2.2.2] _ HRG.out Tryd.underlying35 rfl (by kernel_rfl) ?_)
                refine HRD.out.mono ?_
                rintro e w14 ⟨hb14, rfl | ⟨s, A14, k14, c14, hk14, rfl⟩⟩
                · have HB14 := Lib.hid (HB13.out.trans (hb14.mono HB13.out.size))
                  clear hb14
                  go_wp2_with fail
                  go_roundw
                  case rel => exact ⟨k + 1, hkn, hk6, by simp, HB14.out⟩
                  case measure => simp [intOf]; omega
                · have HB14 := Lib.hid (HB13.out.trans (hb14.mono HB13.out.size))
                  have hkk : ¬ (512 : Int) < (k14 : Int) := by omega
                  have hkd : decide ((512 : Int) < (k14 : Int)) = false := decide_eq_false hkk
                  clear hb14 hk14
                  go_wp2_with fail
                  go_roundw
                  case rel => exact ⟨k + 1, hkn, hk6, by simp, HB14.out⟩
                  case measure => simp [intOf]; omega
              · have hex2 : ((k : Int) < (n : Int) ∧ ¬ (k : Int) < 60) ∨ ¬ (k : Int) < (n : Int) := by omega
                clear hgo2 hk hk60 hk1
                rcases hex2 with ⟨hkn, hk6⟩ | hkn
                all_goals
                  have HRT := Lib.hid (HR13.out.1.root HR13.out.2.2 (by omega))
                  go_wp2_with fail
                  refine HRT.out.mono ?_
                  rintro e w14 ⟨⟨vv, rfl⟩, hb14⟩
                  have HR14 := Lib.hid (⟨HR13.out.1.below hb14, HR13.out.2.1.trans (hb14.mono HR13.out.1.up.bs), HR13.out.2.2.below hb14⟩ : _ ∧ _ ∧ _)
                  have HSE := Lib.hid (HR14.out.1.sealed HR14.out.2.2 (by omega))
                  clear hb14 HRT
                  go_wp2_with fail
                  refine HSE.out.mono ?_
                  rintro e w15 ⟨hb15, rfl | rfl⟩
                  · go_wp2_with fail
                    go_ret
                    exact ⟨rfl, HR14.out.2.1.trans hb15⟩
                  · go_wp2_with fail
                    go_ret
                    exact ⟨rfl, HR14.out.2.1.trans hb15⟩
end Go.Proofs.YtloffgoenaomkaaDoor.Col
