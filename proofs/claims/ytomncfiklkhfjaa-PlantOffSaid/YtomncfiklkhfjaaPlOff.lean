/- The walk of 'PlantOff' (printed by wip/gen_off.py). -/
import Derived.Test.YtomncfiklkhfjaaPlTwo
import Derived.Test.YtomncfiklkhfjaaPlTapesK
namespace Go.Proofs.Ytomncfiklkhfjaa.Pl.Off
open Go Go.RowKit Mem
def R1 (W : World) (a f n : Nat) (dv iv : Value) (wr : World) : Prop :=
  ∃ (i done c : Nat) (p : PM) (F : Nat → Prop), i ≤ 20 ∧ i ≤ n ∧ iv = .int .i64 (i : Int) ∧ dv = .int .i64 (done : Int) ∧ c ≤ i + 1 ∧ At f done p ∧ Below W.heap.size W wr ∧ St W.heap.size wr F a p c
theorem V8_lo (x : UInt8) : 0 ≤ V8 x ∧ V8 x ≤ 255 := by
  unfold V8
  have := x.toNat_lt
  omega
set_option maxRecDepth 100000 in
set_option maxHeartbeats 16000000 in
theorem lawOff (A : Option Addr) (bs : List UInt8) (n cap : Nat) (fl : Int) (W : World) (hb : BAt W A bs) (hn : bs.length = n) (hnm : n ≤ 9223372036854775807) (hf0 : -9223372036854775808 ≤ fl) (hf1 : fl ≤ 9223372036854775807) (hneg : ¬ fl < 0) :
    Calls Try.prog 11 #[.slice A n cap, .int .i64 fl] W fun e W' => e = .returned (.bool true) ∧ Below W.heap.size W W' := by
  have HB := Lib.hid hb
  have HN := Lib.hid hn
  clear hb hn
  obtain ⟨f, hfe, hfm⟩ : ∃ f : Nat, fl.tmod 12 = (f : Int) ∧ f < 12 := by
    have h1 : fl.tmod 12 = fl % 12 := IntWalk.rem_in _ _ (by omega)
    exact ⟨(fl % 12).toNat, by rw [h1]; omega, by omega⟩
  go_enter Try.func11, Try.ntmps11
  go_wp2_with fail
  refine (shown_any W).mono ?_
  rintro e w0 ⟨rfl, hb0⟩
  have HW0 := Lib.hid hb0
  clear hb0
  go_wp2_with fail
  have hn := new_any ((w0.alloc (.cells #[.int .i64 8] 3)).alloc (.cells #[.int .i64 8] 3)) (some ⟨w0.heap.size, 0, none⟩) (some ⟨w0.heap.size + 1, 0, none⟩) 1 1 1 1 [8] [8] ((iat_new w0 [8] _ rfl _).below (below_al' _)) (iat_new _ [8] _ (by simp) _) rfl rfl (by omega) (by omega)
  rw [OM_new] at hn
  refine hn.mono ?_
  clear hn
  rintro e w1 ⟨hb1, ⟨h, _⟩ | ⟨a, p, h, rfl, hp⟩⟩
  · cases h
  injection h with h
  subst h
  have hB0 : W.heap.size ≤ ((w0.alloc (.cells #[.int .i64 8] 3)).alloc (.cells #[.int .i64 8] 3)).heap.size := by have := HW0.out.size; simp; omega
  have HW1 : Hid (Below W.heap.size W w1) := Lib.hid (HW0.out.trans ((((Below.refl _ w0).alloc HW0.out.size _).alloc (by have := HW0.out.size; simp; omega) _).trans (hb1.mono hB0)))
  obtain ⟨F, hs⟩ : ∃ F, St W.heap.size w1 F a (OM [] false none 0) 0 := ⟨_, St.new hp hB0 OM_new⟩
  have HS1 := Lib.hid hs
  clear hb1 hp hB0 hs
  go_wp2_with fail
  have hc := HS1.out.setFuse HW1.out.size (f : Int) (by omega)
  rw [OM_fuse] at hc
  refine hc.mono ?_
  clear hc
  rintro e w2 ⟨rfl, hs2, hm2⟩
  have HW2 := Lib.hid (St.bel HS1.out HW1.out HW1.out.size hm2)
  have HS2 := Lib.hid hs2
  clear hs2 hm2 HS1 HW1 HW0
  go_wp2_with fail
  try simp only [hfe]
  clear hfe
  go_loopw [8, 9] (fun dv iv wr => R1 W a f n dv iv wr) (fun _ iv _ => 20 - (intOf iv).toNat)
  case atStart => exact ⟨0, 0, 1, _, _, by omega, by omega, rfl, rfl, by omega, At.start f, HW2.out, HS2.out⟩
  case round =>
    obtain ⟨i, done, c, p, F2, hi, hin, rfl, rfl, hc, hat, hbl, hst⟩ := hrel
    have HAT := Lib.hid hat
    have HBL := Lib.hid hbl
    have HST := Lib.hid hst
    clear hat hbl hst
    by_cases hlt : i < n
    · have hiN : (i : Int) < (n : Int) := by omega
      by_cases hlt2 : i < 20
      · have hi20 : (i : Int) < 20 := by omega
        obtain ⟨ad, hA, hcb⟩ := Tapes.byteAt HB.out (i := i) (by rw [HN.out]; omega)
        subst hA
        have HCB := Lib.hid hcb
        have hcell := HCB.out wr HBL.out
        clear hcb
        generalize bs.getD i 0 = x at *
        obtain ⟨hz0, hz1⟩ := V8_lo x
        have ht2 : (V8 x).tmod 2 = V8 x % 2 := IntWalk.rem_in _ _ hz0
        have hu2 : IntKind.u8.wrap (V8 x % 2) = V8 x % 2 := IntWalk.u8_in _ (by omega)
        by_cases hpar : V8 x % 2 = 0
        · have hp1 : (V8 x % 2 == 0) = true := by rw [beq_iff_eq]; exact hpar
          have hq : (V8 x).tdiv 2 = V8 x / 2 := Int.tdiv_eq_ediv_of_nonneg hz0
          have hr : (V8 x / 2).tmod 8 = V8 x / 2 % 8 := IntWalk.rem_in _ _ (by omega)
          have wa : IntKind.i64.wrap (V8 x) = V8 x := IntWalk.i64_in _ (by omega)
          have wb : IntKind.i64.wrap (V8 x / 2) = V8 x / 2 := IntWalk.i64_in _ (by omega)
          have wc : IntKind.i64.wrap (V8 x / 2 % 8) = V8 x / 2 % 8 := IntWalk.i64_in _ (by omega)
          obtain ⟨k, hk, hk8⟩ : ∃ k : Nat, V8 x / 2 % 8 = (k : Int) ∧ k < 8 := ⟨(V8 x / 2 % 8).toNat, by omega, by omega⟩
          go_wp2_with fail
          refine Ord.region_ordM [12] [5, 6, 7] [0, 1, 2, 3, 4, 8, 9, 10, 11, 5, 6, 7, 12, 13, 14] (by kernel_rfl) (by kernel_rfl) (by kernel_rfl) (by kernel_rfl) (Ord.ord_run [0, 1, 2, 3, 4, 8, 9, 10, 11] [_, _, _, _, _, _, _, _, _] rfl (by kernel_rfl) ?_)
          go_wp2_with fail
          refine Ord.nx_ord (Ord.ord_pure (.int .i64 (V8 x)) rfl (by kernel_rfl) rfl (fun w' => by first | (go_simp; done) | (go_simp; exact wa)) ?_)
          simp only [Act.put, List.setIfInBounds_toArray, List.set_cons_zero, List.set_cons_succ]
          refine (Ord.ord_pure (.int .i64 (V8 x / 2)) rfl (by kernel_rfl) rfl (fun w' => by first | (go_simp; done) | (go_simp; rw [hq]; exact wb)) ?_)
          simp only [Act.put, List.setIfInBounds_toArray, List.set_cons_zero, List.set_cons_succ]
          refine (Ord.ord_pure (.int .i64 (k : Int)) rfl (by kernel_rfl) rfl (fun w' => by first | (go_simp; done) | (go_simp; rw [← hk]; exact wc)) ?_)
          simp only [Act.put, List.setIfInBounds_toArray, List.set_cons_zero, List.set_cons_succ]
          refine Ord.ord_oneM rfl (by kernel_rfl) ?_
          go_wp2_with fail
          refine (full_any wr.drew x).mono ?_
          rintro e w3 ⟨g3, rfl, ho3, hb3⟩
          have HW3 := Lib.hid (HBL.out.drew.trans (hb3.mono HBL.out.size))
          have HX3 := Lib.hid ((HST.out.below (below_drewN (Below.refl _ wr) 1)).below hb3)
          have HB3 := Lib.hid hb3
          have hc3 := HX3.out.write HW3.out.size (by omega) 0 (k : Int) (some ⟨g3, 0, none⟩) 64 64 (fullB x) ho3.bat (fullB_len x)
          have hAp := HAT.out.write hk8 (fullB_len x)
          clear ho3 hb3 hcell
          go_wp2_with fail
          refine Ord.nx_and HB3.out (Ord.ord_all [_, _] rfl (by kernel_rfl) ?_)
          go_wp2_with fail
          refine hc3.mono ?_
          clear hc3
          rintro e w4 ⟨rfl, hs4, hm4⟩
          have HW4 := Lib.hid (St.bel HX3.out HW3.out HW3.out.size hm4)
          have HS4 := Lib.hid hs4
          clear hs4 hm4
          rcases hAp with ⟨hd, h1, h2⟩ | ⟨hd, h1, h2⟩
          · rw [h1]
            have HA4 := Lib.hid h2
            have hdI : (done : Int) < (f : Int) := by omega
            clear h1 h2 hd
            go_wp2_with fail
            refine Ord.nx_end ?_
            go_wp2_with fail
            go_roundw
            case rel => exact ⟨i + 1, done + 1, c + 1, _, _, by omega, by omega, by simp, by simp, by omega, HA4.out, HW4.out, HS4.out⟩
            case measure => simp [intOf]; omega
          · rw [h1]
            have HA4 := Lib.hid h2
            have hdI : ¬ (done : Int) < (f : Int) := by omega
            clear h1 h2 hd
            go_wp2_with fail
            refine Ord.nx_end ?_
            go_wp2_with fail
            go_roundw
            case rel => exact ⟨i + 1, done, c + 1, _, _, by omega, by omega, by simp, rfl, by omega, HA4.out, HW4.out, HS4.out⟩
            case measure => simp [intOf]; omega
        · have hp1 : (V8 x % 2 == 0) = false := by rw [beq_eq_false_iff_ne]; exact hpar
          go_wp2_with fail
          refine (full_any wr x).mono ?_
          rintro e w3 ⟨g3, rfl, ho3, hb3⟩
          have HW3 := Lib.hid (HBL.out.trans (hb3.mono HBL.out.size))
          have HX3 := Lib.hid (HST.out.below hb3)
          have hc3 := HX3.out.append HW3.out.size (by omega) 1 (some ⟨g3, 0, none⟩) 64 64 (fullB x) ho3.bat (fullB_len x)
          have hAp := HAT.out.append (fullB_len x)
          clear ho3 hb3 hcell
          go_wp2_with fail
          refine hc3.mono ?_
          clear hc3
          rintro e w4 ⟨rfl, hs4, hm4⟩
          have HW4 := Lib.hid (St.bel HX3.out HW3.out HW3.out.size hm4)
          have HS4 := Lib.hid hs4
          clear hs4 hm4
          rcases hAp with ⟨h1, h2⟩ | ⟨hd, h1, h2⟩ | ⟨hd, h1, h2⟩
          · rw [h1]
            have HA4 := Lib.hid h2
            clear h1 h2
            go_wp2_with fail
            go_roundw
            case rel => exact ⟨i + 1, done, c + 1, _, _, by omega, by omega, by simp, rfl, by omega, HA4.out, HW4.out, HS4.out⟩
            case measure => simp [intOf]; omega
          · rw [h1]
            have HA4 := Lib.hid h2
            have hdI : (done : Int) < (f : Int) := by omega
            clear h1 h2 hd
            go_wp2_with fail
            go_roundw
            case rel => exact ⟨i + 1, done + 1, c + 1, _, _, by omega, by omega, by simp, by simp, by omega, HA4.out, HW4.out, HS4.out⟩
            case measure => simp [intOf]; omega
          · rw [h1]
            have HA4 := Lib.hid h2
            have hdI : ¬ (done : Int) < (f : Int) := by omega
            clear h1 h2 hd
            go_wp2_with fail
            go_roundw
            case rel => exact ⟨i + 1, done, c + 1, _, _, by omega, by omega, by simp, rfl, by omega, HA4.out, HW4.out, HS4.out⟩
            case measure => simp [intOf]; omega
      · obtain rfl : i = 20 := by omega
        go_wp2_with fail
        refine (steps_any HST.out.at_).mono ?_
        rw [HAT.out.steps.1]
        rintro e _ ⟨rfl, rfl⟩
        go_wp2_with fail
        obtain ⟨ws, hfl⟩ := HAT.out.last
        have HFL := Lib.hid hfl
        clear hfl
        refine (HST.out.setFuse HBL.out.size 0 (by omega)).mono ?_
        rintro e w3 ⟨rfl, hs3, hm3⟩
        have HW3 := Lib.hid (St.bel HST.out HBL.out HBL.out.size hm3)
        have HS3 := Lib.hid hs3
        clear hs3 hm3
        go_wp2_with fail
        have hc := HS3.out.flush HW3.out.size (by omega) 0
        rw [HFL.out] at hc
        dsimp only at hc
        refine hc.mono ?_
        clear hc
        rintro e w4 ⟨rfl, hs4, hm4⟩
        have HW4 := Lib.hid (St.bel HS3.out HW3.out HW3.out.size hm4)
        obtain ⟨F4, hs4'⟩ : ∃ F4, St W.heap.size w4 F4 a (OM ws true none done) (c + 1 + 1) := ⟨_, hs4⟩
        have HS4 := Lib.hid hs4'
        clear hs4 hm4 hs4'
        go_wp2_with fail
        refine (HS4.out.copy HW4.out.size (by omega)).mono ?_
        rintro e w5 ⟨b, rfl, hs5, hq5, hd5, hb5⟩
        have HW5 := Lib.hid (HW4.out.trans (hb5.mono HW4.out.size))
        have HS5 := Lib.hid hs5
        have HQ5 := Lib.hid hq5
        have HD5 := Lib.hid hd5
        clear hs5 hq5 hd5 hb5 HS3 HW3 HW4 HS4
        go_wp2_with fail
        refine (on_any HS5.out.at_).mono ?_
        rintro e _ ⟨rfl, rfl⟩
        go_wp2_with fail
        have hc := HS5.out.read (by omega) 0 0
        rw [OM_read_off] at hc
        refine hc.mono ?_
        clear hc
        rintro e w6 ⟨A6, m6, c6, rfl, _, _, hb6⟩
        have HW6 := Lib.hid (HW5.out.trans (hb6.mono HW5.out.size))
        have HS6 := Lib.hid (HS5.out.below hb6)
        have HQ6 := Lib.hid (HQ5.out.below hb6)
        clear hb6 HS5 HQ5 HW5
        go_wp2_with fail
        have hf := full_any w6 9
        rw [show V8 9 = 9 from rfl] at hf
        refine hf.mono ?_
        clear hf
        rintro e w7 ⟨g7, rfl, ho7, hb7⟩
        have HW7 := Lib.hid (HW6.out.trans (hb7.mono HW6.out.size))
        have HS7 := Lib.hid (HS6.out.below hb7)
        have HQ7 := Lib.hid (HQ6.out.below hb7)
        have hc := HS7.out.write HW7.out.size (by omega) 0 0 (some ⟨g7, 0, none⟩) 64 64 (fullB 9) ho7.bat (fullB_len 9)
        rw [OM_write_off] at hc
        dsimp only at hc
        clear hb7 ho7 HS6 HQ6 HW6
        go_wp2_with fail
        refine hc.mono ?_
        clear hc
        rintro e w8 ⟨rfl, hs8, hm8⟩
        have HW8 := Lib.hid (St.bel HS7.out HW7.out HW7.out.size hm8)
        have HS8 := Lib.hid hs8
        obtain ⟨hq8, hd8⟩ := HQ7.out.beside hm8 HD5.out
        have HQ8 := Lib.hid hq8
        have HD8 := Lib.hid hd8
        clear hs8 hm8 hq8 hd8 HS7 HQ7 HW7 HD5
        go_wp2_with fail
        have hf := full_any w8 9
        rw [show V8 9 = 9 from rfl] at hf
        refine hf.mono ?_
        clear hf
        rintro e w9 ⟨g9, rfl, ho9, hb9⟩
        have HW9 := Lib.hid (HW8.out.trans (hb9.mono HW8.out.size))
        have HS9 := Lib.hid (HS8.out.below hb9)
        have HQ9 := Lib.hid (HQ8.out.below hb9)
        have hc := HS9.out.append HW9.out.size (by omega) 1 (some ⟨g9, 0, none⟩) 64 64 (fullB 9) ho9.bat (fullB_len 9)
        rw [OM_append_off] at hc
        dsimp only at hc
        clear hb9 ho9 HS8 HQ8 HW8
        go_wp2_with fail
        refine hc.mono ?_
        clear hc
        rintro e wa ⟨rfl, hsa, hma⟩
        have HWa := Lib.hid (St.bel HS9.out HW9.out HW9.out.size hma)
        have HSa := Lib.hid hsa
        obtain ⟨hqa, hda⟩ := HQ9.out.beside hma HD8.out
        have HQa := Lib.hid hqa
        have HDa := Lib.hid hda
        clear hsa hma hqa hda HS9 HQ9 HW9 HD8
        go_wp2_with fail
        have hc := HSa.out.flush HWa.out.size (by omega) 1
        rw [OM_flush_off] at hc
        dsimp only at hc
        refine hc.mono ?_
        clear hc
        rintro e wb ⟨rfl, hsb, hmb⟩
        have HWb := Lib.hid (St.bel HSa.out HWa.out HWa.out.size hmb)
        have HSb := Lib.hid hsb
        obtain ⟨hqb, hdb⟩ := HQa.out.beside hmb HDa.out
        have HQb := Lib.hid hqb
        have HDb := Lib.hid hdb
        clear hsb hmb hqb hdb HSa HQa HWa HDa
        go_wp2_with fail
        have hc := HSb.out.setFuse HWb.out.size 3 (by omega)
        rw [OM_fuse_off] at hc
        refine hc.mono ?_
        clear hc
        rintro e wc ⟨rfl, hsc, hmc⟩
        have HWc := Lib.hid (St.bel HSb.out HWb.out HWb.out.size hmc)
        have HSc := Lib.hid hsc
        obtain ⟨hqc, hdc⟩ := HQb.out.beside hmc HDb.out
        have HQc := Lib.hid hqc
        have HDc := Lib.hid hdc
        clear hsc hmc hqc hdc HSb HQb HWb HDb
        go_wp2_with fail
        refine (HSc.out.len (by omega) 1).mono ?_
        rintro e wd ⟨rfl, hbd⟩
        have HWd := Lib.hid (HWc.out.trans (hbd.mono HWc.out.size))
        have HSd := Lib.hid (HSc.out.below hbd)
        have HQd := Lib.hid (HQc.out.below hbd)
        clear hbd HSc HQc HWc
        go_wp2_with fail
        refine (on_any HSd.out.at_).mono ?_
        rintro e _ ⟨rfl, rfl⟩
        go_wp2_with fail
        refine (steps_any HSd.out.at_).mono ?_
        rw [show (OM ws true none done).steps = done from rfl]
        rintro e _ ⟨rfl, rfl⟩
        go_wp2_with fail
        have hbe : Below wd.heap.size wd (wd.alloc (.cells #[.int .i64 1] 3)) := below_al' _
        have HWe := Lib.hid (HWd.out.trans (hbe.mono HWd.out.size))
        have HSe := Lib.hid (HSd.out.below hbe)
        have HQe := Lib.hid (HQd.out.below hbe)
        refine (HSe.out.boot HWe.out.size (by omega) (some ⟨wd.heap.size, 0, none⟩) 1 1 [1] (iat_new wd [1] _ rfl _) rfl (fun _ ad hA hF => by
          injection hA with hA
          subst hA
          exact absurd (HSd.out.lt _ hF).2 (Nat.lt_irrefl _)) (by omega)).mono ?_
        rintro e wf ⟨rfl, hsf, hmf⟩
        have HWf := Lib.hid (St.bel HSe.out HWe.out HWe.out.size hmf)
        have HSf := Lib.hid hsf
        obtain ⟨hqf, hdf⟩ := HQe.out.beside hmf HDc.out
        have HQf := Lib.hid hqf
        have HDf := Lib.hid hdf
        clear hsf hmf hqf hdf HSe HQe HQd HWe HDc hbe
        go_wp2_with fail
        have hbg : Below wf.heap.size wf (wf.alloc (.cells #[.int .i64 1] 3)) := below_al' _
        have HWg := Lib.hid (HWf.out.trans (hbg.mono HWf.out.size))
        have HSg := Lib.hid (HSf.out.below hbg)
        have HQg := Lib.hid (HQf.out.below hbg)
        refine (HQg.out.boot HWg.out.size (by omega) (some ⟨wf.heap.size, 0, none⟩) 1 1 [1] (iat_new wf [1] _ rfl _) rfl (fun _ ad hA hF => by
          injection hA with hA
          subst hA
          exact absurd (HQf.out.lt _ hF).2 (Nat.lt_irrefl _)) (by omega)).mono ?_
        rintro e wh ⟨rfl, hqh, hmh⟩
        have HWh := Lib.hid (St.bel HQg.out HWg.out HWg.out.size hmh)
        have HQh := Lib.hid hqh
        obtain ⟨hsh, _⟩ := HSg.out.beside hmh (disj_symm HDf.out)
        have HSh := Lib.hid hsh
        clear hqh hmh hsh HSg HQg HSf HQf HWf HWg HDf hbg
        go_wp2_with fail
        have hc := HSh.out.len (by omega) 1
        rw [OM_len_boot ws true none done HSd.out.ok] at hc
        refine hc.mono ?_
        clear hc
        rintro e wi ⟨rfl, hbi⟩
        have HWi := Lib.hid (HWh.out.trans (hbi.mono HWh.out.size))
        have HSi := Lib.hid (HSh.out.below hbi)
        have HQi := Lib.hid (HQh.out.below hbi)
        clear hbi HSh HQh HWh
        obtain ⟨P, hP⟩ : ∃ P, P = (OM ws true none done).boot [1] := ⟨_, rfl⟩
        have hPo : P.off = false := by rw [hP]; rfl
        rw [← hP] at HSi HQi
        obtain ⟨Fp, Fq, cp, cq, hcp, hsp, hsq⟩ : ∃ Fp Fq cp cq, (cp ≤ 100 ∧ cq ≤ 100) ∧ St W.heap.size wi Fp a P cp ∧ St W.heap.size wi Fq b P cq := ⟨_, _, _, _, ⟨by omega, by omega⟩, HSi.out, HQi.out⟩
        have HSP := Lib.hid hsp
        have HSQ := Lib.hid hsq
        clear hsp hsq HSi HQi HSd HWd hP
        go_wp2_with fail
        go_loopw [23] (fun iv wr => ∃ i : Nat, i ≤ 8 ∧ iv = .int .i64 (i : Int) ∧ Below W.heap.size W wr ∧ St W.heap.size wr Fp a P cp ∧ St W.heap.size wr Fq b P cq) (fun iv _ => 8 - (intOf iv).toNat)
        case atStart => exact ⟨0, by omega, rfl, HWi.out, HSP.out, HSQ.out⟩
        case round =>
          obtain ⟨i, hi8, rfl, hbl, hsp, hsq⟩ := hrel
          have HBL2 := Lib.hid hbl
          have HP2 := Lib.hid hsp
          have HQ2 := Lib.hid hsq
          clear hbl hsp hsq
          by_cases hlt8 : i < 8
          · have hi8I : (i : Int) < 8 := by omega
            go_wp2_with fail
            refine (HP2.out.read (by omega) 0 (i : Int)).mono ?_
            rintro e wj ⟨Aj, mj, cj, rfl, hlj, hhj, hbj⟩
            have HWj := Lib.hid (HBL2.out.trans (hbj.mono HBL2.out.size))
            have HPj := Lib.hid (HP2.out.below hbj)
            have HQj := Lib.hid (HQ2.out.below hbj)
            have HHj := Lib.hid hhj
            have HLj := Lib.hid hlj
            clear hbj hhj hlj
            go_wp2_with fail
            refine (HQj.out.read (by omega) 0 (i : Int)).mono ?_
            rintro e wk ⟨Ak, mk, ck, rfl, hlk, hhk, hbk⟩
            have HWk := Lib.hid (HWj.out.trans (hbk.mono HWj.out.size))
            have HPk := Lib.hid (HPj.out.below hbk)
            have HQk := Lib.hid (HQj.out.below hbk)
            have HHj2 := Lib.hid (HHj.out.below hbk)
            have hsm := same_any Aj Ak _ _ mj mk cj ck wk HLj.out.symm hlk.symm HHj2.out.1 hhk.1
            rw [decide_eq_true rfl] at hsm
            clear hbk hhk hlk
            go_wp2_with fail
            refine hsm.mono ?_
            clear hsm
            rintro e _ ⟨rfl, rfl⟩
            go_wp2_with fail
            go_roundw
            case rel =>
              exact ⟨i + 1, by omega, by simp, HWk.out, HPk.out, HQk.out⟩
            case measure => simp [intOf]; omega
          · obtain rfl : i = 8 := by omega
            go_wp2_with fail
            refine (on_any HP2.out.at_).mono ?_
            rw [hPo]
            rintro e _ ⟨rfl, rfl⟩
            go_wp2_with fail
            go_ret
            exact ⟨rfl, HBL2.out⟩
    · obtain rfl : n = i := by omega
      go_wp2_with fail
      refine (steps_any HST.out.at_).mono ?_
      rw [HAT.out.steps.1]
      rintro e _ ⟨rfl, rfl⟩
      go_wp2_with fail
      obtain ⟨ws, hfl⟩ := HAT.out.last
      have HFL := Lib.hid hfl
      clear hfl
      refine (HST.out.setFuse HBL.out.size 0 (by omega)).mono ?_
      rintro e w3 ⟨rfl, hs3, hm3⟩
      have HW3 := Lib.hid (St.bel HST.out HBL.out HBL.out.size hm3)
      have HS3 := Lib.hid hs3
      clear hs3 hm3
      go_wp2_with fail
      have hc := HS3.out.flush HW3.out.size (by omega) 0
      rw [HFL.out] at hc
      dsimp only at hc
      refine hc.mono ?_
      clear hc
      rintro e w4 ⟨rfl, hs4, hm4⟩
      have HW4 := Lib.hid (St.bel HS3.out HW3.out HW3.out.size hm4)
      obtain ⟨F4, hs4'⟩ : ∃ F4, St W.heap.size w4 F4 a (OM ws true none done) (c + 1 + 1) := ⟨_, hs4⟩
      have HS4 := Lib.hid hs4'
      clear hs4 hm4 hs4'
      go_wp2_with fail
      refine (HS4.out.copy HW4.out.size (by omega)).mono ?_
      rintro e w5 ⟨b, rfl, hs5, hq5, hd5, hb5⟩
      have HW5 := Lib.hid (HW4.out.trans (hb5.mono HW4.out.size))
      have HS5 := Lib.hid hs5
      have HQ5 := Lib.hid hq5
      have HD5 := Lib.hid hd5
      clear hs5 hq5 hd5 hb5 HS3 HW3 HW4 HS4
      go_wp2_with fail
      refine (on_any HS5.out.at_).mono ?_
      rintro e _ ⟨rfl, rfl⟩
      go_wp2_with fail
      have hc := HS5.out.read (by omega) 0 0
      rw [OM_read_off] at hc
      refine hc.mono ?_
      clear hc
      rintro e w6 ⟨A6, m6, c6, rfl, _, _, hb6⟩
      have HW6 := Lib.hid (HW5.out.trans (hb6.mono HW5.out.size))
      have HS6 := Lib.hid (HS5.out.below hb6)
      have HQ6 := Lib.hid (HQ5.out.below hb6)
      clear hb6 HS5 HQ5 HW5
      go_wp2_with fail
      have hf := full_any w6 9
      rw [show V8 9 = 9 from rfl] at hf
      refine hf.mono ?_
      clear hf
      rintro e w7 ⟨g7, rfl, ho7, hb7⟩
      have HW7 := Lib.hid (HW6.out.trans (hb7.mono HW6.out.size))
      have HS7 := Lib.hid (HS6.out.below hb7)
      have HQ7 := Lib.hid (HQ6.out.below hb7)
      have hc := HS7.out.write HW7.out.size (by omega) 0 0 (some ⟨g7, 0, none⟩) 64 64 (fullB 9) ho7.bat (fullB_len 9)
      rw [OM_write_off] at hc
      dsimp only at hc
      clear hb7 ho7 HS6 HQ6 HW6
      go_wp2_with fail
      refine hc.mono ?_
      clear hc
      rintro e w8 ⟨rfl, hs8, hm8⟩
      have HW8 := Lib.hid (St.bel HS7.out HW7.out HW7.out.size hm8)
      have HS8 := Lib.hid hs8
      obtain ⟨hq8, hd8⟩ := HQ7.out.beside hm8 HD5.out
      have HQ8 := Lib.hid hq8
      have HD8 := Lib.hid hd8
      clear hs8 hm8 hq8 hd8 HS7 HQ7 HW7 HD5
      go_wp2_with fail
      have hf := full_any w8 9
      rw [show V8 9 = 9 from rfl] at hf
      refine hf.mono ?_
      clear hf
      rintro e w9 ⟨g9, rfl, ho9, hb9⟩
      have HW9 := Lib.hid (HW8.out.trans (hb9.mono HW8.out.size))
      have HS9 := Lib.hid (HS8.out.below hb9)
      have HQ9 := Lib.hid (HQ8.out.below hb9)
      have hc := HS9.out.append HW9.out.size (by omega) 1 (some ⟨g9, 0, none⟩) 64 64 (fullB 9) ho9.bat (fullB_len 9)
      rw [OM_append_off] at hc
      dsimp only at hc
      clear hb9 ho9 HS8 HQ8 HW8
      go_wp2_with fail
      refine hc.mono ?_
      clear hc
      rintro e wa ⟨rfl, hsa, hma⟩
      have HWa := Lib.hid (St.bel HS9.out HW9.out HW9.out.size hma)
      have HSa := Lib.hid hsa
      obtain ⟨hqa, hda⟩ := HQ9.out.beside hma HD8.out
      have HQa := Lib.hid hqa
      have HDa := Lib.hid hda
      clear hsa hma hqa hda HS9 HQ9 HW9 HD8
      go_wp2_with fail
      have hc := HSa.out.flush HWa.out.size (by omega) 1
      rw [OM_flush_off] at hc
      dsimp only at hc
      refine hc.mono ?_
      clear hc
      rintro e wb ⟨rfl, hsb, hmb⟩
      have HWb := Lib.hid (St.bel HSa.out HWa.out HWa.out.size hmb)
      have HSb := Lib.hid hsb
      obtain ⟨hqb, hdb⟩ := HQa.out.beside hmb HDa.out
      have HQb := Lib.hid hqb
      have HDb := Lib.hid hdb
      clear hsb hmb hqb hdb HSa HQa HWa HDa
      go_wp2_with fail
      have hc := HSb.out.setFuse HWb.out.size 3 (by omega)
      rw [OM_fuse_off] at hc
      refine hc.mono ?_
      clear hc
      rintro e wc ⟨rfl, hsc, hmc⟩
      have HWc := Lib.hid (St.bel HSb.out HWb.out HWb.out.size hmc)
      have HSc := Lib.hid hsc
      obtain ⟨hqc, hdc⟩ := HQb.out.beside hmc HDb.out
      have HQc := Lib.hid hqc
      have HDc := Lib.hid hdc
      clear hsc hmc hqc hdc HSb HQb HWb HDb
      go_wp2_with fail
      refine (HSc.out.len (by omega) 1).mono ?_
      rintro e wd ⟨rfl, hbd⟩
      have HWd := Lib.hid (HWc.out.trans (hbd.mono HWc.out.size))
      have HSd := Lib.hid (HSc.out.below hbd)
      have HQd := Lib.hid (HQc.out.below hbd)
      clear hbd HSc HQc HWc
      go_wp2_with fail
      refine (on_any HSd.out.at_).mono ?_
      rintro e _ ⟨rfl, rfl⟩
      go_wp2_with fail
      refine (steps_any HSd.out.at_).mono ?_
      rw [show (OM ws true none done).steps = done from rfl]
      rintro e _ ⟨rfl, rfl⟩
      go_wp2_with fail
      have hbe : Below wd.heap.size wd (wd.alloc (.cells #[.int .i64 1] 3)) := below_al' _
      have HWe := Lib.hid (HWd.out.trans (hbe.mono HWd.out.size))
      have HSe := Lib.hid (HSd.out.below hbe)
      have HQe := Lib.hid (HQd.out.below hbe)
      refine (HSe.out.boot HWe.out.size (by omega) (some ⟨wd.heap.size, 0, none⟩) 1 1 [1] (iat_new wd [1] _ rfl _) rfl (fun _ ad hA hF => by
        injection hA with hA
        subst hA
        exact absurd (HSd.out.lt _ hF).2 (Nat.lt_irrefl _)) (by omega)).mono ?_
      rintro e wf ⟨rfl, hsf, hmf⟩
      have HWf := Lib.hid (St.bel HSe.out HWe.out HWe.out.size hmf)
      have HSf := Lib.hid hsf
      obtain ⟨hqf, hdf⟩ := HQe.out.beside hmf HDc.out
      have HQf := Lib.hid hqf
      have HDf := Lib.hid hdf
      clear hsf hmf hqf hdf HSe HQe HQd HWe HDc hbe
      go_wp2_with fail
      have hbg : Below wf.heap.size wf (wf.alloc (.cells #[.int .i64 1] 3)) := below_al' _
      have HWg := Lib.hid (HWf.out.trans (hbg.mono HWf.out.size))
      have HSg := Lib.hid (HSf.out.below hbg)
      have HQg := Lib.hid (HQf.out.below hbg)
      refine (HQg.out.boot HWg.out.size (by omega) (some ⟨wf.heap.size, 0, none⟩) 1 1 [1] (iat_new wf [1] _ rfl _) rfl (fun _ ad hA hF => by
        injection hA with hA
        subst hA
        exact absurd (HQf.out.lt _ hF).2 (Nat.lt_irrefl _)) (by omega)).mono ?_
      rintro e wh ⟨rfl, hqh, hmh⟩
      have HWh := Lib.hid (St.bel HQg.out HWg.out HWg.out.size hmh)
      have HQh := Lib.hid hqh
      obtain ⟨hsh, _⟩ := HSg.out.beside hmh (disj_symm HDf.out)
      have HSh := Lib.hid hsh
      clear hqh hmh hsh HSg HQg HSf HQf HWf HWg HDf hbg
      go_wp2_with fail
      have hc := HSh.out.len (by omega) 1
      rw [OM_len_boot ws true none done HSd.out.ok] at hc
      refine hc.mono ?_
      clear hc
      rintro e wi ⟨rfl, hbi⟩
      have HWi := Lib.hid (HWh.out.trans (hbi.mono HWh.out.size))
      have HSi := Lib.hid (HSh.out.below hbi)
      have HQi := Lib.hid (HQh.out.below hbi)
      clear hbi HSh HQh HWh
      obtain ⟨P, hP⟩ : ∃ P, P = (OM ws true none done).boot [1] := ⟨_, rfl⟩
      have hPo : P.off = false := by rw [hP]; rfl
      rw [← hP] at HSi HQi
      obtain ⟨Fp, Fq, cp, cq, hcp, hsp, hsq⟩ : ∃ Fp Fq cp cq, (cp ≤ 100 ∧ cq ≤ 100) ∧ St W.heap.size wi Fp a P cp ∧ St W.heap.size wi Fq b P cq := ⟨_, _, _, _, ⟨by omega, by omega⟩, HSi.out, HQi.out⟩
      have HSP := Lib.hid hsp
      have HSQ := Lib.hid hsq
      clear hsp hsq HSi HQi HSd HWd hP
      go_wp2_with fail
      go_loopw [23] (fun iv wr => ∃ i : Nat, i ≤ 8 ∧ iv = .int .i64 (i : Int) ∧ Below W.heap.size W wr ∧ St W.heap.size wr Fp a P cp ∧ St W.heap.size wr Fq b P cq) (fun iv _ => 8 - (intOf iv).toNat)
      case atStart => exact ⟨0, by omega, rfl, HWi.out, HSP.out, HSQ.out⟩
      case round =>
        obtain ⟨i, hi8, rfl, hbl, hsp, hsq⟩ := hrel
        have HBL2 := Lib.hid hbl
        have HP2 := Lib.hid hsp
        have HQ2 := Lib.hid hsq
        clear hbl hsp hsq
        by_cases hlt8 : i < 8
        · have hi8I : (i : Int) < 8 := by omega
          go_wp2_with fail
          refine (HP2.out.read (by omega) 0 (i : Int)).mono ?_
          rintro e wj ⟨Aj, mj, cj, rfl, hlj, hhj, hbj⟩
          have HWj := Lib.hid (HBL2.out.trans (hbj.mono HBL2.out.size))
          have HPj := Lib.hid (HP2.out.below hbj)
          have HQj := Lib.hid (HQ2.out.below hbj)
          have HHj := Lib.hid hhj
          have HLj := Lib.hid hlj
          clear hbj hhj hlj
          go_wp2_with fail
          refine (HQj.out.read (by omega) 0 (i : Int)).mono ?_
          rintro e wk ⟨Ak, mk, ck, rfl, hlk, hhk, hbk⟩
          have HWk := Lib.hid (HWj.out.trans (hbk.mono HWj.out.size))
          have HPk := Lib.hid (HPj.out.below hbk)
          have HQk := Lib.hid (HQj.out.below hbk)
          have HHj2 := Lib.hid (HHj.out.below hbk)
          have hsm := same_any Aj Ak _ _ mj mk cj ck wk HLj.out.symm hlk.symm HHj2.out.1 hhk.1
          rw [decide_eq_true rfl] at hsm
          clear hbk hhk hlk
          go_wp2_with fail
          refine hsm.mono ?_
          clear hsm
          rintro e _ ⟨rfl, rfl⟩
          go_wp2_with fail
          go_roundw
          case rel =>
            exact ⟨i + 1, by omega, by simp, HWk.out, HPk.out, HQk.out⟩
          case measure => simp [intOf]; omega
        · obtain rfl : i = 8 := by omega
          go_wp2_with fail
          refine (on_any HP2.out.at_).mono ?_
          rw [hPo]
          rintro e _ ⟨rfl, rfl⟩
          go_wp2_with fail
          go_ret
          exact ⟨rfl, HBL2.out⟩
end Go.Proofs.Ytomncfiklkhfjaa.Pl.Off
