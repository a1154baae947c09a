/- The walk of 'PlantPlays': devices, power, rot and clock do what the document says. -/
import Derived.Test.YtomncfiklkhfjaaPlaysU
import Derived.Test.YtomncfiklkhfjaaPlaysV
import Derived.Test.YtomncfiklkhfjaaPlaysW
import Derived.Test.YtomncfiklkhfjaaPlaysX
import Derived.Test.YtomncfiklkhfjaaRefNew
namespace Go.Proofs.Ytomncfiklkhfjaa.Ref
open Go Go.RowKit Mem Pl
set_option maxRecDepth 100000 in
set_option maxHeartbeats 16000000 in
theorem lawPlays (A1 A2 : Option Addr) (n1 n2 k1 k2 : Nat) (zs1 zs2 : List Int) (AO : Option Addr) (m cap : Nat) (os : List OpM) (W : World) (h1 : IAt W A1 zs1) (h2 : IAt W A2 zs2) (hl1 : zs1.length = n1) (hl2 : zs2.length = n2) (hn1 : n1 ≤ 1000000000) (hn2 : n2 ≤ 1000000000)
    (ho : OpsAt W AO os) (hom : os.length = m) (hm : m ≤ 100000000) :
    Calls Try.prog 12 #[.agg #[.slice A1 n1 k1, .slice A2 n2 k2], .slice AO m cap] W fun e W' => e = .returned (.bool true) ∧ Below W.heap.size W W' := by
  have H1 := Lib.hid h1
  have H2 := Lib.hid h2
  have HL1 := Lib.hid hl1
  have HL2 := Lib.hid hl2
  have HO := Lib.hid ho
  have HOM := Lib.hid hom
  have hs0 := Blk.new W 44 #[.slice A1 n1 k1, .slice A2 n2 k2]
  have HS0 := Lib.hid hs0
  have hb0 : Below W.heap.size W (W.alloc (.cells #[.slice A1 n1 k1, .slice A2 n2 k2] 44)) := below_al' _
  have HB0 := Lib.hid hb0
  clear h1 h2 hl1 hl2 hs0 hb0 ho hom
  go_enter Try.func12, Try.ntmps12
  go_wp2_with fail
  refine (shown_any _).mono ?_
  rintro e w1 ⟨rfl, hb1⟩
  have hs1 := HS0.out.below_ hb1
  have HS1 := Lib.hid hs1
  have HW1 : Hid (Below W.heap.size W w1) := Lib.hid (HB0.out.trans (hb1.mono HB0.out.size))
  have c0 := (hs1.cell 0).trans (show _ = some (.slice A1 n1 k1) from rfl)
  have c1 := (hs1.cell 1).trans (show _ = some (.slice A2 n2 k2) from rfl)
  have hlt1 := hs1.lt
  have hn := new_any w1 A1 A2 n1 n2 k1 k2 zs1 zs2 (H1.out.below HW1.out) (H2.out.below HW1.out) HL1.out HL2.out hn1 hn2
  have HN := Lib.hid hn
  clear hb1 hs1 HS0 HB0 hn
  go_wp2_with fail
  refine HN.out.mono ?_
  rintro e w4 ⟨hb4, hN⟩
  have HW4 := Lib.hid (HW1.out.trans (hb4.mono HW1.out.size))
  have HB4 := Lib.hid hb4
  have hs4 := HS1.out.below_ hb4
  have c2 := (hs4.cell 0).trans (show _ = some (.slice A1 n1 k1) from rfl)
  have c3 := (hs4.cell 1).trans (show _ = some (.slice A2 n2 k2) from rfl)
  have hlt4 := hs4.lt
  have hr := refNew_any (S := fun j => ¬ New w1 w4 j) w4 A1 A2 n1 n2 k1 k2 zs1 zs2 (H1.out.below HW4.out) (H2.out.below HW4.out) HL1.out HL2.out hn1 hn2 (fun j hj hf => by have := hf.2; omega)
  have HR := Lib.hid hr
  clear hr hb4 hs4 c0 c1 HN
  rcases hN with ⟨hnone, rfl⟩ | ⟨a, p, hsome, rfl, hp⟩
  · have HE := Lib.hid hnone
    clear hnone
    go_wp2_with fail
    refine HR.out.mono ?_
    rintro e w5 ⟨hb5, ⟨_, rfl⟩ | ⟨r, p, h, _⟩⟩
    · have HW5 := Lib.hid (HW4.out.trans (hb5.mono HW4.out.size))
      clear hb5
      go_wp2_with fail
      go_ret
      exact ⟨rfl, HW5.out⟩
    · rw [HE.out] at h
      cases h
  · have HE := Lib.hid hsome
    have HP := Lib.hid hp
    clear hsome hp
    go_wp2_with fail
    refine HR.out.mono ?_
    rintro e w5 ⟨hb5, ⟨h, _⟩ | ⟨r, p', h, rfl, hr⟩⟩
    · rw [HE.out] at h
      cases h
    · rw [HE.out] at h
      injection h with h
      subst h
      have HBG := Lib.hid (Beg.new HW1.out HP.out HB4.out HE.out hr hb5)
      clear hr hb5 HP HB4 HE HW4 HW1 HS1 HR hlt1 hlt4 c2 c3
      go_wp2_with fail
      refine (HBG.out.copy (by omega)).mono ?_
      rintro e w6 ⟨a', rfl, hc⟩
      have HC := Lib.hid hc
      clear hc
      go_wp2_with fail
      refine (HC.out.copy (by omega)).mono ?_
      rintro e w7 ⟨r', rfl, hd⟩
      have HD := Lib.hid hd
      clear hd HC HBG
      go_wp2_with fail
      go_loopg [12, 6, 8, 10, 11] m (fun k iv xv yv zv sv wr => PR W m k iv xv yv zv sv wr)
      case atStart => exact ⟨0, a, r, p, 0, a', r', p, 0, by omega, rfl, rfl, rfl, rfl, rfl, by omega, by omega, HD.out⟩
      case round =>
        obtain ⟨i, a, r, p, n, a', r', p', n', hi, rfl, rfl, rfl, rfl, rfl, hn, hn', hd⟩ := hrel
        have HDR := Lib.hid hd
        clear hd HD
        by_cases hlt : i < m
        · have hiI : (i : Int) < (m : Int) := by omega
          obtain ⟨o, hoi⟩ : ∃ o, os[i]? = some o := ⟨_, List.getElem?_eq_getElem (by rw [HOM.out]; exact hlt)⟩
          obtain ⟨ad, hA, hcells, hok⟩ := HO.out i o hoi
          subst hA
          obtain ⟨x0, x1, x2, x3, x4, x5, x6⟩ := hcells.below HDR.out.bel
          have HOK := Lib.hid hok
          clear hcells hok hoi
          obtain ⟨kd, dv, pl, at_, nn, byte, AK, nk, ck, keep⟩ := o
          dsimp only at x0 x1 x2 x3 x4 x5 x6
          go_wp2_with fail
          have hb1 : Below wr.heap.size wr (wr.alloc (.cells #[.int .i64 kd, .int .i64 dv, .int .i64 pl, .int .i64 at_, .int .i64 nn, .int .u8 (V8 byte), .slice AK nk ck] 70)) := below_al' _
          refine (sector_any _ kd dv pl at_ nn byte (.slice AK nk ck)).mono ?_
          rintro e w2 ⟨g, rfl, hg, hbk, hb2⟩
          have hr := HDR.out.round hb1 (Blk.new _ _ _) (Nat.le_refl _) hb2 hbk hg
          clear hb1 hbk hb2 hg HDR x0 x1 x2 x3 x4 x5 x6
          generalize wr.heap.size = oo at *
          have HR := Lib.hid hr
          obtain ⟨y0, y1, y2, y3, y4, y5, y6, yl⟩ := hr.oc
          clear hr
          go_wp2_with fail
          refine (kind_any w2 kd HOK.out.kd.1 HOK.out.kd.2).mono ?_
          rintro e _ ⟨rfl, rfl⟩
          have hK := kindM_lt kd
          generalize kindM kd = K at *
          go_upto_block 2 with fail
          go_cut [6, 8, 10, 11, 15, 16, 17, 18, 19, 20, 21, 22, 23, 24, 25, 26, 27, 28, 29, 30] from 70 to 295 (fun xv yv zv sv _ _ _ _ _ _ _ _ _ _ _ _ _ _ _ _ wc => MidP W i oo #[.int .i64 kd, .int .i64 dv, .int .i64 pl, .int .i64 at_, .int .i64 nn, .int .u8 (V8 byte), .slice AK nk ck] g xv yv zv sv wc)
          case first =>
            have hK' : K = 0 ∨ K = 1 ∨ K = 2 ∨ K = 3 ∨ K = 4 ∨ K = 5 ∨ K = 6 ∨ K = 7 ∨ K = 8 ∨ K = 9 ∨ K = 10 ∨ K = 11 ∨ K = 12 ∨ K = 13 := by omega
            clear hK
            rcases hK' with rfl | rfl | rfl | rfl | rfl | rfl | rfl | rfl | rfl | rfl | rfl | rfl | rfl | rfl
            · exact arm0 hn hn' (by omega) HOK HR (by assumption) (by assumption)
            · exact arm1 hn hn' (by omega) HOK HR (by assumption) (by assumption)
            · exact arm2 hn hn' (by omega) HOK HR (by assumption) (by assumption)
            · exact arm3 hn hn' (by omega) HOK HR (by assumption) (by assumption)
            · exact arm4 hn hn' (by omega) HOK HR (by assumption) (by assumption)
            · exact arm5 hn hn' (by omega) HOK HR (by assumption) (by assumption)
            · exact arm6 hn hn' (by omega) HOK HR (by assumption) (by assumption)
            · exact arm7 hn hn' (by omega) HOK HR (by assumption) (by assumption)
            · exact arm8 hn hn' (by omega) HOK HR (by assumption) (by assumption)
            · exact arm9 hn hn' (by omega) HOK HR (by assumption) (by assumption)
            · exact arm10 hn hn' (by omega) HOK HR (by assumption) (by assumption)
            · exact arm11 hn hn' (by omega) HOK HR (by assumption) (by assumption)
            · exact arm12 hn hn' (by omega) HOK HR (by assumption) (by assumption)
            · exact arm13 hn hn' (by omega) HOK HR (by assumption) (by assumption)
          case rest =>
            obtain ⟨a, r, p, n, a', r', p', n', b, rfl, rfl, rfl, rfl, hn1, hn2, hbl, hr⟩ := hcut
            have HRR := Lib.hid hr
            clear hr HR y0 y1 y2 y3 y4 y5 y6 yl
            go_wp2_with fail
            go_loopw [31] (fun kv wr' => RB W a r p n a' r' p' n' oo #[.int .i64 kd, .int .i64 dv, .int .i64 pl, .int .i64 at_, .int .i64 nn, .int .u8 (V8 byte), .slice AK nk ck] g kv wr') (fun kv _ => 64 - (intOf kv).toNat)
            case atStart => exact ⟨0, b, by omega, rfl, hbl, HRR.out⟩
            case round =>
              obtain ⟨k, b, hk, rfl, hbl, hr⟩ := hrel
              have HRS := Lib.hid hr
              by_cases hlk : k < 64
              · have hkI : (k : Int) < 64 := by omega
                have hcz := hr.row.byte (k := k) (by omega)
                have hfz := hr.row.frozen k
                have HRN := Lib.hid (hr.setRow k 98)
                clear hr
                go_wp2_with fail
                go_roundw
                case rel => exact ⟨k + 1, _, by omega, by simp, by rw [List.length_set]; exact hbl, HRN.out⟩
                case measure => simp [intOf]; omega
              · have hkI : ¬ (k : Int) < 64 := by omega
                obtain ⟨y0, y1, y2, y3, y4, y5, y6, yl⟩ := hr.oc
                clear hr HRR
                go_wp2_with fail
                refine (HRS.out.alike (by omega) dv pl).mono ?_
                rintro e w4 ⟨rfl, hb4⟩
                have HRT := Lib.hid (HRS.out.below hb4)
                obtain ⟨z0, z1, z2, z3, z4, z5, z6, zl⟩ := HRT.out.oc
                clear hb4 y0 y1 y2 y3 y4 y5 y6 yl
                go_wp2_with fail
                refine (HRT.out.swap.alike (by omega) dv pl).mono ?_
                rintro e w5 ⟨rfl, hb5⟩
                have HRU := Lib.hid (HRT.out.below hb5)
                clear hb5 z0 z1 z2 z3 z4 z5 z6 zl
                go_wp2_with fail
                go_roundg (gk - 1)
                case measure => omega
                case rel => exact ⟨i + 1, a, r, p, n, a', r', p', n', by omega, by simp, rfl, rfl, rfl, rfl, hn1, hn2, HRU.out.head⟩
        · have hiI : ¬ (i : Int) < (m : Int) := by omega
          obtain rfl : i = m := by omega
          obtain ⟨h12, AH, cH, hc2, hrow⟩ := HDR.out.hasv
          clear hrow
          go_wp2_with fail
          go_loopw [34, 35, 36] (fun dv _ _ wr' => ∃ d : Nat, d ≤ p.devs.length ∧ dv = .int .i64 (d : Int) ∧ Hd W wr' a r p n a' r' p' n') (fun dv _ _ _ => p.devs.length - (intOf dv).toNat)
          case atStart => exact ⟨0, by omega, rfl, HDR.out⟩
          case round =>
            obtain ⟨d, hdl, rfl, hd⟩ := hrel
            clear hc2
            obtain ⟨h12, AH, cH, hc2, hrow⟩ := hd.hasv
            have HDD := Lib.hid hd
            clear hd HDR
            by_cases hlt' : d < p.devs.length
            · have hdI : (d : Int) < (p.devs.length : Int) := by omega
              clear hrow
              go_wp2_with fail
              go_loopw [35, 36] (fun kv _ wr' => ∃ k : Nat, k ≤ 40 ∧ kv = .int .i64 (k : Int) ∧ Hd W wr' a r p n a' r' p' n') (fun kv _ _ => 41 - (intOf kv).toNat)
              case atStart => exact ⟨0, by omega, rfl, HDD.out⟩
              case round =>
                obtain ⟨k, hk, rfl, hd⟩ := hrel
                clear hc2
                obtain ⟨h12, AH, cH, hc2, hrow⟩ := hd.hasv
                have HDE := Lib.hid hd
                clear hd HDD
                obtain ⟨dd, hdd⟩ : ∃ dd, p.devs[d]? = some dd := ⟨_, List.getElem?_eq_getElem hlt'⟩
                obtain ⟨gH, AR, cR, rfl, hcr⟩ := hrow d dd hdd
                clear hrow hdd
                generalize dd.has.length = L at *
                by_cases hkL : k ≤ L
                · have hkI : (k : Int) ≤ (L : Int) := by omega
                  by_cases hk40 : k < 40
                  · have hk4 : (k : Int) < 40 := by omega
                    go_wp2_with fail
                    refine (HDE.out.alike (by omega) (d : Int) (k : Int)).mono ?_
                    rintro e w5 ⟨rfl, hb5⟩
                    have HDF := Lib.hid (HDE.out.below hb5)
                    clear hb5
                    go_wp2_with fail
                    go_roundw
                    case rel => exact ⟨k + 1, by omega, by simp, HDF.out⟩
                    case measure => simp [intOf]; omega
                  · have hk4 : ¬ (k : Int) < 40 := by omega
                    go_wp2_with fail
                    go_roundw
                    case rel => exact ⟨d + 1, by omega, by simp, HDE.out⟩
                    case measure => simp [intOf]; omega
                · have hkI : ¬ (k : Int) ≤ (L : Int) := by omega
                  go_wp2_with fail
                  go_roundw
                  case rel => exact ⟨d + 1, by omega, by simp, HDE.out⟩
                  case measure => simp [intOf]; omega
            · have hdI : ¬ (d : Int) < (p.devs.length : Int) := by omega
              go_wp2_with fail
              go_ret
              exact ⟨rfl, HDD.out.bel⟩
end Go.Proofs.Ytomncfiklkhfjaa.Ref
