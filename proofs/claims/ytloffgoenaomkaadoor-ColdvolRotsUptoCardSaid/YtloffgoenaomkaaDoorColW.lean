/- Layer 15 (coldvol): the law's 'shown'. -/
import Derived.Test.YtloffgoenaomkaaDoorFold32
namespace Go.Proofs.YtloffgoenaomkaaDoor.Col
open Go Go.RowKit Mem Pl Disk Crc _root_.Go.Proofs.YtloffgoenaomkaaDoor.Frame Hash Sha
theorem iat_row (w : World) (zs : List Int) (k : Nat) (hk : w.heap.size = k) (t : TypeId) : IAt (w.alloc (.cells (zs.map intV).toArray t)) (some ⟨k, 0, none⟩) zs := by
  subst hk
  refine .inr ⟨_, rfl, fun i z hz => ?_⟩
  have := (Blk.new w t (zs.map intV).toArray).cell i
  have e : (Addr.add ⟨w.heap.size, 0, none⟩ i) = ⟨w.heap.size, i, none⟩ := by
    unfold Addr.add
    split
    · rename_i h; subst h; rfl
    · simp
  rw [e, this]
  simp [hz, intV]
theorem strTy : Tryd.prog.underlying 9 = some .string := Tryd.underlying9
def z512 : List UInt8 := List.replicate 512 0
theorem run_make512 (w : World) : (Instr.makeSlice 38 (.int .i64 512) (.int .i64 512)).run Tryd.prog w = .ok (.slice (some ⟨w.heap.size, 0, none⟩) 512 512) (w.alloc (.cells (cellsOf z512) 5)) :=
  run_makeCap Pl.byteTy 512 512 512 512 rfl rfl (Nat.le_refl _) (by omega) w
theorem z512_len : z512.length = 512 := by unfold z512; exact List.length_replicate
def b7 : List UInt8 := zeros.set 5 7
theorem b7_len : b7.length = 64 := rfl
theorem nm_a : Rec.nameM [97] = true := by decide +kernel
theorem nm_b : Rec.nameM [98] = true := by decide +kernel
theorem nm_c : Rec.nameM [99] = true := by decide +kernel
def osS : List (Nat × List UInt8 × List UInt8) := [(0, [97], b7)]
theorem sh_may1 : mayT 16 [] none [97] b7 = 0 := by
  unfold mayT
  rw [nm_a]
  rfl
theorem sh_os1 : osA 16 [] none [97] b7 = osS := by
  unfold osA
  rw [sh_may1]
  rfl
theorem sh_x1 : xA 0 16 [] none [97] b7 = placeV 0 0 4 false := by
  unfold xA
  rw [sh_may1]
  rfl
theorem sh_blen : (layB osS).length = 4 := by
  rw [show osS = [] ++ [(0, [97], b7)] from rfl, layB_snoc, List.length_append, putM_len, b7_len]
  rfl
theorem sh_may2 : mayT 16 osS none [98] z512 = 3 := by
  unfold mayT roomT
  rw [nm_b, sh_blen]
  have h : z512.length = 512 := z512_len
  rw [h]
  rfl
theorem sh_x2 : xA 0 16 osS none [98] z512 = placeV 0 0 0 false ∧ osA 16 osS none [98] z512 = osS := by
  unfold xA osA
  rw [sh_may2]
  exact ⟨rfl, rfl⟩
theorem sh_seal : sealE 16 osS none = 0 ∧ sealS 16 osS none = some (rootOf osS) := by
  unfold sealE sealS lenT
  rw [sh_blen]
  exact ⟨rfl, rfl⟩
theorem sh_may3 (r : List UInt8) : mayT 16 osS (some r) [99] [] = 3 := by
  unfold mayT
  rw [nm_c]
  rfl
theorem sh_x3 (r : List UInt8) : xA 0 16 osS (some r) [99] [] = placeV 0 0 0 false ∧ osA 16 osS (some r) [99] [] = osS := by
  unfold xA osA
  rw [sh_may3]
  exact ⟨rfl, rfl⟩
theorem sh_ans1 {o : Option (List UInt8 × List UInt8)} (h : AnsIs 0 osS 0 0 4 o) : o = some ([97], b7) :=
  (h [97] b7).2 ⟨rfl, rfl, 0, List.mem_cons_self .., rfl⟩
theorem sh_ans2 {o : Option (List UInt8 × List UInt8)} (h : AnsIs 0 osS 0 1 4 o) : o = none := by
  cases o with
  | none => rfl
  | some x =>
    obtain ⟨_, _, s, hm, hs⟩ := (h x.1 x.2).1 rfl
    have := List.mem_singleton.1 hm
    have h0 := congrArg Prod.fst this
    simp only at h0
    omega
theorem upto_made {w : World} {B : Nat} (hB : B ≤ w.heap.size) (htb : Tb B w) (n : Nat) (h1 : 1 ≤ n) (h2 : n ≤ 4096) :
    Calls Tryd.prog 9 #[.agg #[.slice none 0 0, .slice (some ⟨w.heap.size, 0, none⟩) 1 1]] (w.alloc (.cells #[.int .i64 (n : Int)] 3)) fun e w' => ∃ a F pm, e = .returned (.tuple #[.pointer (some ⟨a, 0, none⟩), .int .i64 0]) ∧ Up B w' F a pm 0 ∧ (∀ g, F g → w.heap.size ≤ g) ∧ TT pm 0 n [] none ∧ pm.disks.length = 0 ∧ pm.tapes.length = 1 ∧ Below w.heap.size w w' := by
  have hn := Pl.new_any (w.alloc (.cells #[.int .i64 (n : Int)] 3)) none (some ⟨w.heap.size, 0, none⟩) 0 1 0 1 [] [(n : Int)] (.inl rfl) (iat_row w [(n : Int)] _ rfl _) rfl rfl (by omega) (by omega)
  obtain ⟨p0, hp0⟩ : ∃ p, newM [] [(n : Int)] = some p := by
    unfold newM
    have a1 : ¬ ((n : Int) < 1) := by omega
    have a2 : ¬ (4096 < (n : Int)) := by omega
    simp [a1, a2]
  rw [hp0] at hn
  refine hn.mono ?_
  rintro e w' ⟨hb, ⟨h, _⟩ | ⟨a, p, h, rfl, hp⟩⟩
  · cases h
  injection h with h
  subst h
  have hb1 := below_al' (w := w) (.cells #[.int .i64 (n : Int)] 3)
  have hbb := hb1.trans (hb.mono hb1.size)
  obtain ⟨_, _, _, _, hd, ht, _⟩ := newM_ok hp0
  exact ⟨a, _, p0, rfl, Up.made hp hb (Nat.le_trans hB hb1.size) (htb.below (hb1.mono hB)) hp0, fun g hg => Nat.le_trans hb1.size hg.1, TT.made hp0 (j := 0) rfl rfl, by rw [hd]; rfl, by rw [ht]; rfl, hbb⟩
set_option maxRecDepth 100000 in
set_option maxHeartbeats 16000000 in
theorem shown_any (w : World) (htb : Tb w.heap.size w) :
    Calls Tryd.prog 8 #[] w fun e w' => e = .returned (.bool true) ∧ Below w.heap.size w w' := by
  have HTB := Lib.hid htb
  have HMD := Lib.hid (upto_made (w := w) (Nat.le_refl _) htb 16 (by omega) (by omega))
  clear htb
  go_enter Tryd.func8, Tryd.ntmps8
  go_wp2_with fail
  refine HMD.out.mono ?_
  rintro e w1 ⟨a, F1, p1, rfl, hu, hF, ht, hd0, hd1, hb1⟩
  have HU1 := Lib.hid hu
  have HT1 := Lib.hid ht
  have HB1 := Lib.hid hb1
  have HD1 := Lib.hid (⟨hF, hd0, hd1⟩ : _ ∧ _ ∧ _)
  have HOP := Lib.hid (hu.opened ht)
  clear hu ht hb1 hF hd0 hd1 HMD
  go_wp2_with fail
  refine HOP.out.mono ?_
  rintro e w2 ⟨hb2, v, rfl, hv, hvb⟩
  have HU2 := Lib.hid (HU1.out.below hb2)
  have HB2 := Lib.hid (HB1.out.trans (hb2.mono HB1.out.size))
  have HV2 := Lib.hid hvb
  have HON := Lib.hid (HU2.out.opened_no 1 (by have := HD1.out; omega))
  clear hb2 hv hvb HU1 HB1 HOP
  go_wp2_with fail
  refine HON.out.mono ?_
  rintro e w3 ⟨hb3, rfl⟩
  have HU3 := Lib.hid (HU2.out.below hb3)
  have HB3 := Lib.hid (HB2.out.trans (hb3.mono HB2.out.size))
  have HV3 := Lib.hid (HV2.out.below hb3)
  have hro := HU3.out.room HT1.out HV3.out (by omega)
  rw [show roomT 16 [] none = 14 from rfl] at hro
  have HRO := Lib.hid hro
  clear hb3 hro HU2 HB2 HV2 HON
  go_wp2_with fail
  refine HRO.out.mono ?_
  rintro e w4 ⟨rfl, hb4⟩
  have HU4 := Lib.hid (HU3.out.below hb4)
  have HB4 := Lib.hid (HB3.out.trans (hb4.mono HB3.out.size))
  have HV4 := Lib.hid (HV3.out.below hb4)
  clear hb4 HU3 HB3 HV3 HRO
  have hmk := run_make64
  go_upto_region 9 with fail
  clear hmk
  have hb5 := below_al' (w := w4) (.cells (zeros.map B8).toArray 5)
  have hk5 : Blk (w4.alloc (.cells (zeros.map B8).toArray 5)) w4.heap.size 5 (cellsOf zeros) := Blk.new w4 5 (zeros.map B8).toArray
  generalize w4.alloc (.cells (zeros.map B8).toArray 5) = w5 at *
  have c5 := hk5.byte (k := 5) (by rw [zeros_len]; omega)
  have z5 := hk5.frozen 5
  have hs5 := hk5.setByte 5 7
  have hm5 : Below w4.heap.size w4 (w5.setCell ⟨w4.heap.size, 5, none⟩ (.int .u8 (V8 7))) := ((Mods.of_below (F := fun _ => False) hb5).setCell (p := ⟨w4.heap.size, 5, none⟩) (.inr (Nat.le_refl _)) (.int .u8 (V8 7))).below fun _ _ h => h
  have hw7 : V8 7 = 7 := rfl
  rw [hw7] at hs5 hm5
  have HS5 : Hid (Blk (w5.setCell ⟨w4.heap.size, 5, none⟩ (.int .u8 7)) w4.heap.size 5 (cellsOf b7)) := Lib.hid hs5
  have HM5 := Lib.hid hm5
  clear hb5 hk5 hs5 hm5 hw7
  go_upto_region 10 with fail
  generalize w5.setCell ⟨w4.heap.size, 5, none⟩ (.int .u8 7) = w6 at *
  clear c5 z5
  have HB6 := Lib.hid (HB4.out.trans (HM5.out.mono HB4.out.size))
  have HU6 := Lib.hid (HU4.out.below HM5.out)
  have HV6 := Lib.hid (HV4.out.below HM5.out)
  have hl4 := HB4.out.size
  have hap := HU6.out.append HT1.out HV6.out (by omega) [97] (by decide) (some ⟨w4.heap.size, 0, none⟩) 64 64 b7 HS5.out.bat b7_len (Nat.le_refl _) (by omega) (fun h => by cases h)
  rw [sh_may1, sh_os1, sh_x1] at hap
  have HAP := Lib.hid hap
  have hg4 := HS5.out.lt
  have HF4 : Hid (¬ F1 w4.heap.size) := Lib.hid (fun h => by have := (HU4.out.st.lt _ h).2; omega)
  clear hap HM5 HU4 HV4 HB4
  go_wp2_with fail
  refine HAP.out.mono ?_
  rintro e w7 ⟨F7, p7, hf7, hu7, hv7, ht7, rfl⟩
  have HB7 := Lib.hid (HB6.out.trans (hf7.low (fun g hg => (HU6.out.st.lt g hg).1) HU6.out.bs))
  have HK7 := Lib.hid ((show Kp w6 F1 w4.heap.size _ _ from ⟨HS5.out, HF4.out⟩).frm hf7)
  have HU7 := Lib.hid hu7
  have HV7 := Lib.hid hv7
  have HT7 := Lib.hid ht7
  clear hf7 hu7 hv7 ht7 HAP HU6 HV6 HB6 HF4 HS5
  rw [show placeV 0 0 4 false = .agg (pcV 0 0 4).toArray from rfl, show ((0 : Nat) : Int) = 0 from rfl]
  have hmk5 := run_make512
  go_wp2_with
    (refine wpList_store_all rfl 35 (.tmp 8) (.tmp 67) rfl w7.heap.size 35 (pcV 0 0 0) (pcV 0 0 4) rfl rfl (Blk.new w7 _ _) rfl (by kernel_rfl) (pcV_one _ _ _) ?_
     intro w8 hb8 hg8 hz8
     have HK8 := Lib.hid hb8
     have HBW8 := Lib.hid ((below_al' (w := w7) (.cells (pcV 0 0 0).toArray 35)).grown hg8 (by simp) (fun k hk => by injection hk with hk; omega))
     clear hb8 hg8 hz8)
  have hz9 := Blk.new w8 5 (cellsOf z512)
  have hb9 := below_al' (w := w8) (.cells (cellsOf z512) 5)
  have HB9 := Lib.hid (HBW8.out.trans (hb9.mono HBW8.out.size))
  have HP9 := Lib.hid ((Kp.new (F := F7) HK8.out (Nat.le_refl _) fun k hk => (HU7.out.st.lt k hk).2).below hb9)
  have HK9 := Lib.hid (HK7.out.below HB9.out)
  have HU9 := Lib.hid (HU7.out.below HB9.out)
  have HV9 := Lib.hid (HV7.out.below HB9.out)
  have hap := HU9.out.append HT7.out HV9.out (by omega) [98] (by decide) (some ⟨w8.heap.size, 0, none⟩) 512 512 z512 hz9.bat z512_len (Nat.le_refl _) (by omega) (fun h => by cases h)
  rw [sh_may2, sh_x2.1, sh_x2.2] at hap
  have HAP := Lib.hid hap
  have HX9 := Lib.hid (HB7.out.trans (HB9.out.mono (Nat.le_trans HU7.out.bs (Nat.le_refl _))))
  clear hz9 hb9 hap hmk5 HU7 HV7 HK7 HK8 HBW8 HB7 HB9
  refine HAP.out.mono ?_
  rintro e w10 ⟨F10, p10, hf10, hu10, hv10, ht10, rfl⟩
  have HB10 := Lib.hid (HX9.out.trans (hf10.low (fun g hg => (HU9.out.st.lt g hg).1) HU9.out.bs))
  have HP10 := Lib.hid (HP9.out.frm hf10)
  have HK10 := Lib.hid (HK9.out.frm hf10)
  have HU10 := Lib.hid hu10
  have HV10 := Lib.hid hv10
  have HT10 := Lib.hid ht10
  clear hf10 hu10 hv10 ht10 HAP HU9 HV9 HX9 HP9 HK9
  rw [show placeV 0 0 0 false = .agg (pcV 0 0 0).toArray from rfl, show ((3 : Nat) : Int) = 3 from rfl]
  go_wp2_with
    (refine wpList_store_all rfl 35 (.tmp 10) (.tmp 73) rfl w10.heap.size 35 (pcV 0 0 0) (pcV 0 0 0) rfl rfl (Blk.new w10 _ _) rfl (by kernel_rfl) (pcV_one _ _ _) ?_
     intro w11 hb11 hg11 hz11
     have HBW11 := Lib.hid ((below_al' (w := w10) (.cells (pcV 0 0 0).toArray 35)).grown hg11 (by simp) (fun k hk => by injection hk with hk; omega))
     clear hb11 hg11 hz11
     have HU11 := Lib.hid (HU10.out.below HBW11.out)
     have HV11 := Lib.hid (HV10.out.below HBW11.out)
     have HP11 := Lib.hid (HP10.out.below HBW11.out)
     have HK11 := Lib.hid (HK10.out.below HBW11.out)
     have HB11 := Lib.hid (HB10.out.trans (HBW11.out.mono HU10.out.bs))
     have hp11 := HP11.out.1
     have c0 := hp11.cell 0
     have c1 := hp11.cell 1
     have c2 := hp11.cell 2
     have c3 := hp11.cell 3
     simp [pcV] at c0 c1 c2 c3
     clear hp11)
  have HRD := Lib.hid (HU11.out.read HT10.out HV11.out (by omega) 0 0 4 false (by omega))
  clear HU10 HV10 HP10 HK10 HB10 HBW11
  refine HRD.out.mono ?_
  rintro e w12 ⟨o, hans, hb12, hr⟩
  obtain rfl := sh_ans1 hans
  rcases hr with ⟨h, _⟩ | ⟨id, A, m, cap, b, ho, rfl, hown⟩
  · cases h
  injection ho with ho
  injection ho with h1 h2
  subst h1 h2
  obtain rfl : 64 = m := hown.len
  have HU12 := Lib.hid (HU11.out.below hb12)
  have HV12 := Lib.hid (HV11.out.below hb12)
  have HP12 := Lib.hid (HP11.out.below hb12)
  have HK12 := Lib.hid (HK11.out.below hb12)
  have HB12 := Lib.hid (HB11.out.trans (hb12.mono HU11.out.bs))
  have HH12 := Lib.hid (Held.of_own (F := F10) hown fun g hg => (HU11.out.st.lt g hg).2)
  have HRD2 := Lib.hid (HU12.out.read HT10.out HV12.out (by omega) 0 1 4 false (by omega))
  clear hb12 hown hans HRD HU11 HV11 HP11 HK11 HB11 c0 c1 c2 c3
  rw [show Rec.S8 [97] = ⟨#[97]⟩ from rfl]
  go_wp2_with fail
  refine HRD2.out.mono ?_
  rintro e w13 ⟨o, hans, hb13, hr⟩
  obtain rfl := sh_ans2 hans
  obtain rfl : e = .returned (.tuple #[.string (Rec.S8 []), .slice none 0 0, .int .i64 4]) := by
    rcases hr with ⟨_, h⟩ | ⟨_, _, _, _, _, h, _⟩
    · exact h
    · cases h
  have HU13 := Lib.hid (HU12.out.below hb13)
  have HV13 := Lib.hid (HV12.out.below hb13)
  have HP13 := Lib.hid (HP12.out.below hb13)
  have HK13 := Lib.hid (HK12.out.below hb13)
  have HB13 := Lib.hid (HB12.out.trans (hb13.mono HU12.out.bs))
  have HH13 := Lib.hid (HH12.out.below hb13)
  have hse := HU13.out.sealed HT10.out HV13.out (by omega)
  rw [sh_seal.1, sh_seal.2] at hse
  have HSE := Lib.hid hse
  clear hb13 hr hans hse HRD2 HU12 HV12 HP12 HK12 HB12 HH12
  rw [show Rec.S8 [] = ⟨#[]⟩ from rfl]
  go_wp2_with fail
  refine HSE.out.mono ?_
  rintro e w14 ⟨F14, p14, hf14, hu14, hv14, ht14, rfl⟩
  have HB14 := Lib.hid (HB13.out.trans (hf14.low (fun g hg => (HU13.out.st.lt g hg).1) HU13.out.bs))
  have HP14 := Lib.hid (HP13.out.frm hf14)
  have HK14 := Lib.hid (HK13.out.frm hf14)
  have HH14 := Lib.hid (HH13.out.frm hf14)
  have HU14 := Lib.hid hu14
  have HV14 := Lib.hid hv14
  have HT14 := Lib.hid ht14
  have hap := hu14.append ht14 hv14 (by omega) [99] (by decide) none 0 0 [] (BAt.nil_ _ _) rfl (Nat.le_refl _) (by omega) (fun _ => rfl)
  rw [sh_may3, (sh_x3 _).1, (sh_x3 _).2] at hap
  have HAP := Lib.hid hap
  clear hf14 hu14 hv14 ht14 hap HSE HU13 HV13 HP13 HK13 HB13 HH13
  rw [show ((0 : Nat) : Int) = 0 from rfl]
  go_wp2_with fail
  refine HAP.out.mono ?_
  rintro e w15 ⟨F15, p15, hf15, hu15, hv15, ht15, rfl⟩
  have HB15 := Lib.hid (HB14.out.trans (hf15.low (fun g hg => (HU14.out.st.lt g hg).1) HU14.out.bs))
  have HP15 := Lib.hid (HP14.out.frm hf15)
  have HK15 := Lib.hid (HK14.out.frm hf15)
  have HH15 := Lib.hid (HH14.out.frm hf15)
  have HU15 := Lib.hid hu15
  have HV15 := Lib.hid hv15
  have HT15 := Lib.hid ht15
  clear hf15 hu15 hv15 ht15 HAP HU14 HV14 HP14 HK14 HB14 HH14 HT14
  rw [show placeV 0 0 0 false = .agg (pcV 0 0 0).toArray from rfl, show ((3 : Nat) : Int) = 3 from rfl]
  go_wp2_with
    (refine wpList_store_all rfl 35 (.tmp 19) (.tmp 94) rfl w15.heap.size 35 (pcV 0 0 0) (pcV 0 0 0) rfl rfl (Blk.new w15 _ _) rfl (by kernel_rfl) (pcV_one _ _ _) ?_
     intro w16 hb16 hg16 hz16
     have HBW16 := Lib.hid ((below_al' (w := w15) (.cells (pcV 0 0 0).toArray 35)).grown hg16 (by simp) (fun k hk => by injection hk with hk; omega))
     clear hb16 hg16 hz16
     have HU16 := Lib.hid (HU15.out.below HBW16.out)
     have HV16 := Lib.hid (HV15.out.below HBW16.out)
     have HP16 := Lib.hid (HP15.out.below HBW16.out)
     have HK16 := Lib.hid (HK15.out.below HBW16.out)
     have HH16 := Lib.hid (HH15.out.below HBW16.out)
     have HB16 := Lib.hid (HB15.out.trans (HBW16.out.mono HU15.out.bs)))
  have HRT := Lib.hid (HU16.out.root HT15.out HV16.out (by omega))
  have hal := run_allocHash
  clear HU15 HV15 HP15 HK15 HB15 HH15 HBW16
  refine HRT.out.mono ?_
  rintro e w17 ⟨rfl, hb17⟩
  have HP17 := Lib.hid (HP16.out.below hb17)
  have HK17 := Lib.hid (HK16.out.below hb17)
  have HH17 := Lib.hid (HH16.out.below hb17)
  have HB17 := Lib.hid (HB16.out.trans (hb17.mono HU16.out.bs))
  have HS17 := Lib.hid (Nat.le_trans HU16.out.bs hb17.size)
  clear hb17 HRT HU16 HV16 HP16 HK16 HB16 HH16
  rw [show ((some (rootOf osS)).getD z32) = rootOf osS from rfl, show ((some (rootOf osS)).isSome) = true from rfl]
  go_wp2_with
    (refine wpList_store_hash rfl (.tmp 21) (.tmp 99) rfl w17.heap.size _ z32 (rootOf osS) rfl rfl (Blk.new w17 _ _) rfl (rootOf_len _) ?_
     intro w18 hb18 hg18 hz18
     have HBW18 := Lib.hid ((below_al' (w := w17) (.cells (cellsOf z32) 44)).grown hg18 (by simp) (fun k hk => by injection hk with hk; omega))
     clear hb18 hg18 hz18
     have HB18 := Lib.hid (HB17.out.trans (HBW18.out.mono HS17.out))
     have hp18 := (HP17.out.below HBW18.out).1
     have c0 := hp18.cell 0
     have c1 := hp18.cell 1
     have c2 := hp18.cell 2
     have c3 := hp18.cell 3
     simp [pcV] at c0 c1 c2 c3
     have t1 := run_toString (P := Tryd.prog) Pl.byteTy strTy (w := w18) (bs := b7) cap (HH17.out.below HBW18.out).1 b7_len
     have t2 := run_toString (P := Tryd.prog) Pl.byteTy strTy (w := w18) (bs := b7) 64 (HK17.out.below HBW18.out).1.bat b7_len
     generalize (⟨b7.toArray⟩ : ByteArray) = s7 at t1 t2
     clear hp18)
  have hbl := blocks_any w18 512
  refine hbl.mono ?_
  rintro e _ ⟨rfl, rfl⟩
  rw [show ((blocksZ 512 : Nat) : Int) = 12 from rfl]
  go_wp2_with fail
  go_ret
  exact ⟨rfl, HB18.out⟩
end Go.Proofs.YtloffgoenaomkaaDoor.Col
