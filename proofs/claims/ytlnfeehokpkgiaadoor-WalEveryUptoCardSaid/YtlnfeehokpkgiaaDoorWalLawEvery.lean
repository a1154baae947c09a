/- The law 'WalEvery'. -/
import Derived.Test.YtlnfeehokpkgiaaDoorFold32
namespace Go.Proofs.YtlnfeehokpkgiaaDoor.Wal
open Go Go.RowKit Mem Pl Disk Crc _root_.Go.Proofs.YtlnfeehokpkgiaaDoor.Frame
def EvyR (W : World) (iv : Value) (wr : World) : Prop := ∃ i : Nat, iv = .int .i64 (i : Int) ∧ i ≤ 400 ∧ Below W.heap.size W wr
def EvyI (W : World) (a d m : Nat) (iv : Value) (wr : World) : Prop := ∃ i : Nat, iv = .int .i64 (i : Int) ∧ i ≤ m ∧ StdW W wr a d 0 40 (100 + 210 * i) (2 * i) (2 + 3 * i)
theorem StdW.dims {W w : World} {a d dev N n dm Gm : Nat} (x : StdW W w a d dev N n dm Gm) : ∃ k : Nat, w.cell? ⟨d, 6, none⟩ = some (.int .i64 (k : Int)) := by
  obtain ⟨F, K, pm, g, v, txs, dims, H, G, E, nx, h, _⟩ := x
  exact ⟨dims, (Blk.cell h.desk 6).trans rfl⟩
set_option maxRecDepth 100000 in
set_option maxHeartbeats 16000000 in
theorem lawWEvery (AO : Option Addr) (m cap : Nat) (os : List OpW) (KA : Option Addr) (kn kc : Nat) (keep : List Int) (W : World) (ht : Tab W) (hgc : 0 < W.heap.size) (ho : OpsWAt W AO os) (hom : os.length = m) (hm : m ≤ 1048576) (hmc : m ≤ cap)
    (hk : IAt W KA keep) (hkl : keep.length = kn) (hkm : kn ≤ 9223372036854775807) (hkW : keep ≠ [] → ∀ ad, KA = some ad → ad.block < W.heap.size) :
    Calls Tryd.prog 6 #[.slice AO m cap, .slice KA kn kc] W fun e W' => e = .returned (.bool true) ∧ Below W.heap.size W W' := by
  have HSH := Lib.hid (shown_any W ht hgc)
  have HT := Lib.hid ht
  have HK := Lib.hid (⟨hk, hkl, hkW⟩ : _ ∧ _ ∧ _)
  by_cases h12 : 12 < m
  · have hI : (12 : Int) < (m : Int) := by omega
    have HO : Hid (OpsWAt W AO (os.take 12)) := Lib.hid fun i o h => ho i o (by
      rw [List.getElem?_take] at h
      split at h
      · exact h
      · cases h)
    have HOM : Hid ((os.take 12).length = 12) := Lib.hid (by rw [List.length_take]; omega)
    clear ht ho hom hk hkl hkW
    generalize os.take 12 = os at *
    obtain ⟨m2, hm2⟩ : ∃ k : Nat, k = 12 := ⟨12, rfl⟩
    rw [← hm2] at HOM
    have hm3 : m2 ≤ 12 := by omega
    go_enter Tryd.func6, Tryd.ntmps6
    go_wp2_with fail
    refine HSH.out.mono ?_
    rintro e w0 ⟨rfl, hb0⟩
    have HB0 := Lib.hid hb0
    clear hb0 HSH
    go_wp2_with fail
    go_loopw [6] (fun iv wr => EvyR W iv wr) (fun iv _ => 400 - (intOf iv).toNat)
    case atStart => exact ⟨0, rfl, by omega, HB0.out⟩
    case round =>
      obtain ⟨f, rfl, hf, hbr⟩ := hrel
      have HBR := Lib.hid hbr
      have HMD := Lib.hid (made_any wr 1 40 (by omega) (by omega) (by omega) (by omega))
      clear hbr
      by_cases hlt : f < 400
      · have hfI : (f : Int) < 400 := by omega
        go_wp2_with fail
        refine HMD.out.mono ?_
        rintro e w1 ⟨a, rfl, hp, hb1⟩
        have hb01 := HBR.out.trans (hb1.mono HBR.out.size)
        have HBG := Lib.hid (begun_std (W := W) (St.new hp HBR.out.size (walPM_new (by omega) (by omega) (by omega) (by omega))) (walPM_disk 1 40 0 (by omega)) hb01 (by omega) rfl rfl (by omega) (HT.out.below hb01 hgc) hgc)
        clear hp hb1 hb01 HMD
        go_wp2_with fail
        refine HBG.out.mono ?_
        rintro e w2 ⟨d, rfl, hs2⟩
        have HFU := Lib.hid (hs2.fuse (f : Int) (by omega))
        clear hs2 HBG
        go_wp2_with fail
        refine HFU.out.mono ?_
        rintro e w3 ⟨rfl, hs3⟩
        have HS3 := Lib.hid hs3
        clear hs3 HFU
        go_wp2_with fail
        go_loopw [9] (fun iv wr => EvyI W a d m2 iv wr) (fun iv _ => m2 - (intOf iv).toNat)
        case atStart => exact ⟨0, rfl, by omega, HS3.out.more (by omega) (by omega) (by omega)⟩
        case round =>
          obtain ⟨i, rfl, hi, hs⟩ := hrel
          have HS := Lib.hid hs
          have HLW := Lib.hid hs.low
          by_cases hlti : i < m2
          · have hiI : (i : Int) < (12 : Int) := by omega
            have hiN : decide (i < 12) = true := decide_eq_true (by omega)
            obtain ⟨o, hoi⟩ : ∃ o, os[i]? = some o := ⟨_, List.getElem?_eq_getElem (by rw [HOM.out]; exact hlti)⟩
            obtain ⟨ad, hA, hcells, hok⟩ := HO.out i o hoi
            obtain ⟨x0, x1, x2, x3⟩ := hcells.below HLW.out
            have HOK := Lib.hid hok
            subst hA
            clear hs hcells hok hoi
            go_wp2_with fail
            obtain ⟨ov, hov⟩ : ∃ o2 : OpW, o2 = ⟨o.kind, o.N, o.TA, o.tn, o.tc, KA, kn, kc, o.tx, keep⟩ := ⟨_, rfl⟩
            have hb1 := below_al' (w := wr) (.cells #[.int .i64 o.kind, .int .i64 o.N, .slice o.TA o.tn o.tc, .slice KA kn kc] 54)
            have hs1 := HS.out.below hb1
            have hok2 : OpWOk W ⟨o.kind, o.N, o.TA, o.tn, o.tc, KA, kn, kc, o.tx, keep⟩ := ⟨HOK.out.k, HOK.out.i, HOK.out.rows, HOK.out.tl, HOK.out.tm, HOK.out.tot, HK.out.1, HK.out.2.1, hkm⟩
            have HD := Lib.hid (hs1.do_ (by omega) (by omega) (by omega) ⟨o.kind, o.N, o.TA, o.tn, o.tc, KA, kn, kc, o.tx, keep⟩ hok2 HK.out.2.2)
            have HS1 := Lib.hid hs1
            have HWH := Lib.hid (fun w : World => which_any w o.kind 12 (by omega) (by omega) HOK.out.k)
            clear hs1 hok2 hb1 x0 x1 x2 x3 hov
            generalize whichM o.kind 12 = q at *
            by_cases h9 : q = 9
            · subst h9
              refine (HWH.out _).mono ?_
              rintro e _ ⟨rfl, rfl⟩
              go_wp2_with fail
              go_roundw
              case rel => exact ⟨i + 1, by simp, by omega, HS1.out.more (by omega) (by omega) (by omega)⟩
              case measure => simp [intOf]; omega
            by_cases h10 : q = 10
            · subst h10
              refine (HWH.out _).mono ?_
              rintro e _ ⟨rfl, rfl⟩
              go_wp2_with fail
              refine (HWH.out _).mono ?_
              rintro e _ ⟨rfl, rfl⟩
              go_wp2_with fail
              go_roundw
              case rel => exact ⟨i + 1, by simp, by omega, HS1.out.more (by omega) (by omega) (by omega)⟩
              case measure => simp [intOf]; omega
            have e9 : ((q : Int) == 9) = false := by simp; omega
            have e10 : ((q : Int) == 10) = false := by simp; omega
            refine (HWH.out _).mono ?_
            rintro e _ ⟨rfl, rfl⟩
            go_wp2_with fail
            refine (HWH.out _).mono ?_
            rintro e _ ⟨rfl, rfl⟩
            go_wp2_with fail
            refine HD.out.mono ?_
            rintro e w5 ⟨rfl, hs5⟩
            have HS5 := Lib.hid hs5
            clear hs5 HD HS1 HWH
            go_wp2_with fail
            go_roundw
            case rel => exact ⟨i + 1, by simp, by omega, HS5.out.more (by omega) (by omega) (by omega)⟩
            case measure => simp [intOf]; omega
          · obtain rfl : i = 12 := by omega
            subst hm2
            have hiI : ¬ (12 : Int) < (12 : Int) := by omega
            have hiN : decide (12 < 12) = false := decide_eq_false (by omega)
            obtain ⟨dn, hdn⟩ := hs.dims
            have HBT := Lib.hid (hs.boot (by omega) KA kn kc keep HK.out.1 HK.out.2.1 HK.out.2.2 hkm)
            clear hs
            by_cases hd0 : dn = 0
            · subst hd0
              go_wp2_with fail
              refine HBT.out.mono ?_
              rintro e w6 ⟨rfl, hs6⟩
              obtain ⟨A6, k6, c6, hc6⟩ := hs6.cell
              have HOP := Lib.hid (hs6.opened (by omega) (by omega) (by omega) hc6 KA kn kc keep HK.out.1 HK.out.2.1 HK.out.2.2 hkm)
              clear hs6 HBT hdn
              go_wp2_with fail
              refine HOP.out.mono ?_
              rintro e w7 ⟨rfl, hs7⟩
              have HL7 := Lib.hid hs7.low
              clear hs7 HOP hc6
              go_wp2_with fail
              go_ret
              exact ⟨rfl, HL7.out⟩
            · have hdI : ((dn : Int) == 0) = false := by simp; omega
              go_wp2_with fail
              refine HBT.out.mono ?_
              rintro e w6 ⟨rfl, hs6⟩
              obtain ⟨A6, k6, c6, hc6⟩ := hs6.cell
              have HOP := Lib.hid (hs6.opened (by omega) (by omega) (by omega) hc6 KA kn kc keep HK.out.1 HK.out.2.1 HK.out.2.2 hkm)
              clear hs6 HBT hdn
              go_wp2_with fail
              refine HOP.out.mono ?_
              rintro e w7 ⟨rfl, hs7⟩
              have HL7 := Lib.hid hs7.low
              clear hs7 HOP hc6
              go_wp2_with fail
              go_roundw
              case rel => exact ⟨f + 1, by simp, by omega, HL7.out⟩
              case measure => simp [intOf]; omega
      · obtain rfl : f = 400 := by omega
        go_wp2_with fail
        go_ret
        exact ⟨rfl, HBR.out⟩
  · have hI : ¬ (12 : Int) < (m : Int) := by omega
    have HO := Lib.hid ho
    have HOM := Lib.hid hom
    clear ht ho hom hk hkl hkW
    have hm3 : m ≤ 12 := by omega
    go_enter Tryd.func6, Tryd.ntmps6
    go_wp2_with fail
    refine HSH.out.mono ?_
    rintro e w0 ⟨rfl, hb0⟩
    have HB0 := Lib.hid hb0
    clear hb0 HSH
    go_wp2_with fail
    go_loopw [6] (fun iv wr => EvyR W iv wr) (fun iv _ => 400 - (intOf iv).toNat)
    case atStart => exact ⟨0, rfl, by omega, HB0.out⟩
    case round =>
      obtain ⟨f, rfl, hf, hbr⟩ := hrel
      have HBR := Lib.hid hbr
      have HMD := Lib.hid (made_any wr 1 40 (by omega) (by omega) (by omega) (by omega))
      clear hbr
      by_cases hlt : f < 400
      · have hfI : (f : Int) < 400 := by omega
        go_wp2_with fail
        refine HMD.out.mono ?_
        rintro e w1 ⟨a, rfl, hp, hb1⟩
        have hb01 := HBR.out.trans (hb1.mono HBR.out.size)
        have HBG := Lib.hid (begun_std (W := W) (St.new hp HBR.out.size (walPM_new (by omega) (by omega) (by omega) (by omega))) (walPM_disk 1 40 0 (by omega)) hb01 (by omega) rfl rfl (by omega) (HT.out.below hb01 hgc) hgc)
        clear hp hb1 hb01 HMD
        go_wp2_with fail
        refine HBG.out.mono ?_
        rintro e w2 ⟨d, rfl, hs2⟩
        have HFU := Lib.hid (hs2.fuse (f : Int) (by omega))
        clear hs2 HBG
        go_wp2_with fail
        refine HFU.out.mono ?_
        rintro e w3 ⟨rfl, hs3⟩
        have HS3 := Lib.hid hs3
        clear hs3 HFU
        go_wp2_with fail
        go_loopw [9] (fun iv wr => EvyI W a d m iv wr) (fun iv _ => m - (intOf iv).toNat)
        case atStart => exact ⟨0, rfl, by omega, HS3.out.more (by omega) (by omega) (by omega)⟩
        case round =>
          obtain ⟨i, rfl, hi, hs⟩ := hrel
          have HS := Lib.hid hs
          have HLW := Lib.hid hs.low
          by_cases hlti : i < m
          · have hiI : (i : Int) < (m : Int) := by omega
            have hiN : decide (i < m) = true := decide_eq_true (by omega)
            obtain ⟨o, hoi⟩ : ∃ o, os[i]? = some o := ⟨_, List.getElem?_eq_getElem (by rw [HOM.out]; exact hlti)⟩
            obtain ⟨ad, hA, hcells, hok⟩ := HO.out i o hoi
            obtain ⟨x0, x1, x2, x3⟩ := hcells.below HLW.out
            have HOK := Lib.hid hok
            subst hA
            clear hs hcells hok hoi
            go_wp2_with fail
            obtain ⟨ov, hov⟩ : ∃ o2 : OpW, o2 = ⟨o.kind, o.N, o.TA, o.tn, o.tc, KA, kn, kc, o.tx, keep⟩ := ⟨_, rfl⟩
            have hb1 := below_al' (w := wr) (.cells #[.int .i64 o.kind, .int .i64 o.N, .slice o.TA o.tn o.tc, .slice KA kn kc] 54)
            have hs1 := HS.out.below hb1
            have hok2 : OpWOk W ⟨o.kind, o.N, o.TA, o.tn, o.tc, KA, kn, kc, o.tx, keep⟩ := ⟨HOK.out.k, HOK.out.i, HOK.out.rows, HOK.out.tl, HOK.out.tm, HOK.out.tot, HK.out.1, HK.out.2.1, hkm⟩
            have HD := Lib.hid (hs1.do_ (by omega) (by omega) (by omega) ⟨o.kind, o.N, o.TA, o.tn, o.tc, KA, kn, kc, o.tx, keep⟩ hok2 HK.out.2.2)
            have HS1 := Lib.hid hs1
            have HWH := Lib.hid (fun w : World => which_any w o.kind 12 (by omega) (by omega) HOK.out.k)
            clear hs1 hok2 hb1 x0 x1 x2 x3 hov
            generalize whichM o.kind 12 = q at *
            by_cases h9 : q = 9
            · subst h9
              refine (HWH.out _).mono ?_
              rintro e _ ⟨rfl, rfl⟩
              go_wp2_with fail
              go_roundw
              case rel => exact ⟨i + 1, by simp, by omega, HS1.out.more (by omega) (by omega) (by omega)⟩
              case measure => simp [intOf]; omega
            by_cases h10 : q = 10
            · subst h10
              refine (HWH.out _).mono ?_
              rintro e _ ⟨rfl, rfl⟩
              go_wp2_with fail
              refine (HWH.out _).mono ?_
              rintro e _ ⟨rfl, rfl⟩
              go_wp2_with fail
              go_roundw
              case rel => exact ⟨i + 1, by simp, by omega, HS1.out.more (by omega) (by omega) (by omega)⟩
              case measure => simp [intOf]; omega
            have e9 : ((q : Int) == 9) = false := by simp; omega
            have e10 : ((q : Int) == 10) = false := by simp; omega
            refine (HWH.out _).mono ?_
            rintro e _ ⟨rfl, rfl⟩
            go_wp2_with fail
            refine (HWH.out _).mono ?_
            rintro e _ ⟨rfl, rfl⟩
            go_wp2_with fail
            refine HD.out.mono ?_
            rintro e w5 ⟨rfl, hs5⟩
            have HS5 := Lib.hid hs5
            clear hs5 HD HS1 HWH
            go_wp2_with fail
            go_roundw
            case rel => exact ⟨i + 1, by simp, by omega, HS5.out.more (by omega) (by omega) (by omega)⟩
            case measure => simp [intOf]; omega
          · obtain rfl : m = i := by omega
            have hiI : ¬ (m : Int) < (m : Int) := by omega
            have hiN : decide (m < m) = false := decide_eq_false (by omega)
            obtain ⟨dn, hdn⟩ := hs.dims
            have HBT := Lib.hid (hs.boot (by omega) KA kn kc keep HK.out.1 HK.out.2.1 HK.out.2.2 hkm)
            clear hs
            by_cases hd0 : dn = 0
            · subst hd0
              go_wp2_with fail
              refine HBT.out.mono ?_
              rintro e w6 ⟨rfl, hs6⟩
              obtain ⟨A6, k6, c6, hc6⟩ := hs6.cell
              have HOP := Lib.hid (hs6.opened (by omega) (by omega) (by omega) hc6 KA kn kc keep HK.out.1 HK.out.2.1 HK.out.2.2 hkm)
              clear hs6 HBT hdn
              go_wp2_with fail
              refine HOP.out.mono ?_
              rintro e w7 ⟨rfl, hs7⟩
              have HL7 := Lib.hid hs7.low
              clear hs7 HOP hc6
              go_wp2_with fail
              go_ret
              exact ⟨rfl, HL7.out⟩
            · have hdI : ((dn : Int) == 0) = false := by simp; omega
              go_wp2_with fail
              refine HBT.out.mono ?_
              rintro e w6 ⟨rfl, hs6⟩
              obtain ⟨A6, k6, c6, hc6⟩ := hs6.cell
              have HOP := Lib.hid (hs6.opened (by omega) (by omega) (by omega) hc6 KA kn kc keep HK.out.1 HK.out.2.1 HK.out.2.2 hkm)
              clear hs6 HBT hdn
              go_wp2_with fail
              refine HOP.out.mono ?_
              rintro e w7 ⟨rfl, hs7⟩
              have HL7 := Lib.hid hs7.low
              clear hs7 HOP hc6
              go_wp2_with fail
              go_roundw
              case rel => exact ⟨f + 1, by simp, by omega, HL7.out⟩
              case measure => simp [intOf]; omega
      · obtain rfl : f = 400 := by omega
        go_wp2_with fail
        go_ret
        exact ⟨rfl, HBR.out⟩
end Go.Proofs.YtlnfeehokpkgiaaDoor.Wal
