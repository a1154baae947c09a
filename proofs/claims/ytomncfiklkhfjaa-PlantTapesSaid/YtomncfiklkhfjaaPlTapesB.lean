/- The walk of 'PlantTapes' (printed by wip/gen_tapes.py): one of four cases. -/
import Derived.Test.YtomncfiklkhfjaaPlTapesK
namespace Go.Proofs.Ytomncfiklkhfjaa.Pl.Tapes
open Go Go.RowKit Mem
set_option maxRecDepth 100000 in
set_option maxHeartbeats 16000000 in
theorem lawB (A : Option Addr) (bs : List UInt8) (n cap : Nat) (fl : Int) (AK : Option Addr) (nk ck : Nat) (keep : List Int) (W : World) (hb : BAt W A bs) (hn : bs.length = n) (hnm : n ≤ 9223372036854775807) (hf0 : -9223372036854775808 ≤ fl) (hf1 : fl ≤ 9223372036854775807)
    (hk : IAt W AK keep) (hkl : keep.length = nk) (hnk : nk ≤ 9223372036854775807) (hneg : fl < 0) (h40 : ¬ (n : Int) ≤ 40) :
    Calls Try.prog 9 #[.slice A n cap, .int .i64 fl, .slice AK nk ck] W fun e W' => e = .returned (.bool true) ∧ Below W.heap.size W W' := by
  have HB := Lib.hid hb
  have HN := Lib.hid hn
  have HK := Lib.hid hk
  have HKL := Lib.hid hkl
  clear hb hn hk hkl
  obtain ⟨f, hfe, hfm⟩ : ∃ f : Nat, -((fl + 1).tmod 41) = (f : Int) ∧ f ≤ 40 := by
    have h1 : -((fl + 1).tmod 41) = (-(fl + 1)) % 41 := by rw [← Int.neg_tmod]; exact IntWalk.rem_in _ _ (by omega)
    have h2 := Int.emod_nonneg (-(fl + 1)) (show 41 ≠ 0 by omega)
    have h3 := Int.emod_lt_of_pos (-(fl + 1)) (show (0 : Int) < 41 by omega)
    exact ⟨((-(fl + 1)) % 41).toNat, by rw [h1]; omega, by omega⟩
  go_enter Try.func9, Try.ntmps9
  go_wp2_with fail
  refine (shown_any W).mono ?_
  rintro e w0 ⟨rfl, hb0⟩
  have HW0 := Lib.hid hb0
  clear hb0
  go_wp2_with fail
  have hn := new_any ((w0.alloc (.cells #[.int .i64 1] 3)).alloc (.cells #[.int .i64 40] 3)) (some ⟨w0.heap.size, 0, none⟩) (some ⟨w0.heap.size + 1, 0, none⟩) 1 1 1 1 [1] [40] ((iat_new w0 [1] _ rfl _).below (below_al' _)) (iat_new _ [40] _ (by simp) _) rfl rfl (by omega) (by omega)
  rw [TM_new] at hn
  refine hn.mono ?_
  clear hn
  rintro e w1 ⟨hb1, ⟨h, _⟩ | ⟨a, p, h, rfl, hp⟩⟩
  · cases h
  injection h with h
  subst h
  have hB0 : W.heap.size ≤ ((w0.alloc (.cells #[.int .i64 1] 3)).alloc (.cells #[.int .i64 40] 3)).heap.size := by have := HW0.out.size; simp; omega
  have HW1 : Hid (Below W.heap.size W w1) := Lib.hid (HW0.out.trans ((((Below.refl _ w0).alloc HW0.out.size _).alloc (by have := HW0.out.size; simp; omega) _).trans (hb1.mono hB0)))
  obtain ⟨F, hs⟩ : ∃ F, St W.heap.size w1 F a (TM [] [] 0) 0 := ⟨_, St.new hp hB0 TM_new⟩
  have HS1 := Lib.hid hs
  clear hb1 hp hB0 hs
  go_wp2_with fail
  try simp only [hfe]
  clear hfe
  go_loopw [11] (fun iv wr => R1 W a bs f 40 iv wr) (fun iv _ => 40 - (intOf iv).toNat)
  case atStart => exact ⟨0, 0, 0, 0, 0, F, Nat.zero_le _, rfl, rfl, .inl ⟨Nat.zero_le _, rfl⟩, HW1.out, Nat.zero_le _, HS1.out⟩
  case round =>
    obtain ⟨i, j, k, s, c, F2, hi, rfl, hjk, hjf, hbl, hc, hst⟩ := hrel
    have HBL := Lib.hid hbl
    have HST := Lib.hid hst
    clear hbl hst
    by_cases hlt : i < 40
    · obtain ⟨ad, hA, hcb⟩ := byteAt HB.out (i := i) (by rw [HN.out]; omega)
      subst hA
      have HCB := Lib.hid hcb
      clear hcb
      have hiI : (i : Int) < (40 : Int) := by omega
      have hiN : (i : Int) < (n : Int) := by omega
      by_cases hif : i = f
      · have hieq : ((i : Int) == (f : Int)) = true := by simp [hif]
        obtain ⟨rfl, rfl⟩ : j = 0 ∧ k = i := by omega
        clear hif
        go_wp2_with fail
        have hc2 := HST.out.flush HBL.out.size (by omega) 1
        rw [show hasOf (blkOf bs) 0 = [] from rfl, TM_flush] at hc2
        dsimp only at hc2
        refine hc2.mono ?_
        clear hc2
        rintro e w2 ⟨rfl, hs2, hm2⟩
        have HW2 := Lib.hid (St.bel HST.out HBL.out HBL.out.size hm2)
        have HS2 : Hid (St W.heap.size w2 _ a (TM (hasOf (blkOf bs) k) (wrs (blkOf bs) k 0) (s + 1)) (c + 1)) := Lib.hid hs2
        have h2 := HCB.out w2 HW2.out
        clear hs2 hm2
        go_wp2_with fail
        refine (full_any w2 (bs.getD k 0)).mono ?_
        rintro e w3 ⟨g3, rfl, ho3, hb3⟩
        have HW3 := Lib.hid (HW2.out.trans (hb3.mono HW2.out.size))
        have hc3 := (HS2.out.below hb3).append HW3.out.size (by omega) 1 (some ⟨g3, 0, none⟩) 64 64 (blkOf bs k) ho3.bat (blkOf_len bs k)
        rw [tape_app bs (j := k) (k := 0) (i := k) rfl (by omega)] at hc3
        dsimp only at hc3
        have HX3 := Lib.hid (HS2.out.below hb3)
        clear ho3 hb3 h2
        go_wp2_with fail
        refine hc3.mono ?_
        clear hc3
        rintro e w4 ⟨rfl, hs4, hm4⟩
        have HW4 := Lib.hid (St.bel HX3.out HW3.out HW3.out.size hm4)
        have HS4 := Lib.hid hs4
        clear hs4 hm4
        go_wp2_with fail
        go_roundw
        case rel => exact ⟨k + 1, k, 1, s + 2, c + 2, _, hlt, by simp, rfl, .inr ⟨by have := beq_iff_eq.1 hieq; omega, by have := beq_iff_eq.1 hieq; omega⟩, HW4.out, by omega, HS4.out⟩
        case measure => simp [intOf]; omega
      · have hieq : ((i : Int) == (f : Int)) = false := by rw [beq_eq_false_iff_ne]; omega
        have h2 := HCB.out wr HBL.out
        have HIF := Lib.hid hif
        clear hif
        go_wp2_with fail
        refine (full_any wr (bs.getD i 0)).mono ?_
        rintro e w3 ⟨g3, rfl, ho3, hb3⟩
        have HW3 := Lib.hid (HBL.out.trans (hb3.mono HBL.out.size))
        have hc3 := (HST.out.below hb3).append HW3.out.size (by omega) 1 (some ⟨g3, 0, none⟩) 64 64 (blkOf bs i) ho3.bat (blkOf_len bs i)
        rw [tape_app bs hjk (by omega)] at hc3
        dsimp only at hc3
        have HX3 := Lib.hid (HST.out.below hb3)
        clear ho3 hb3 h2
        go_wp2_with fail
        refine hc3.mono ?_
        clear hc3
        rintro e w4 ⟨rfl, hs4, hm4⟩
        have HW4 := Lib.hid (St.bel HX3.out HW3.out HW3.out.size hm4)
        have HS4 := Lib.hid hs4
        clear hs4 hm4
        go_wp2_with fail
        go_roundw
        case rel => exact ⟨i + 1, j, k + 1, s + 1, c + 1, _, hlt, by simp, by omega, by have := HIF.out; omega, HW4.out, by omega, HS4.out⟩
        case measure => simp [intOf]; omega
    · obtain rfl : 40 = i := by omega
      by_cases hif : f = 40
      · have hieq : ((f : Int) == (40 : Int)) = true := by simp [hif]
        obtain ⟨rfl, hk0⟩ : j = 0 ∧ 40 = k := by omega
        subst hk0
        go_wp2_with fail
        have hc2 := HST.out.flush HBL.out.size (by omega) 1
        rw [show hasOf (blkOf bs) 0 = [] from rfl, TM_flush] at hc2
        dsimp only at hc2
        refine hc2.mono ?_
        clear hc2
        rintro e w2 ⟨rfl, hs2, hm2⟩
        have HW2 := Lib.hid (St.bel HST.out HBL.out HBL.out.size hm2)
        have HS2 : Hid (St W.heap.size w2 _ a (TM (hasOf (blkOf bs) 40) (wrs (blkOf bs) 40 0) (s + 1)) (c + 1)) := Lib.hid hs2
        clear hs2 hm2
        go_wp2_with fail
        obtain ⟨H, he, hg⟩ := TM_boot (blkOf bs) keep 40 0 (s + 1)
        have hc3 := HS2.out.boot HW2.out.size (by omega) AK nk ck keep (HK.out.below HW2.out) HKL.out (fun hne ad hA hF => by
          have h1 := iat_lt HK.out hne ad hA
          have h2 := (HS2.out.lt _ hF).1
          omega) hnk
        rw [he] at hc3
        refine hc3.mono ?_
        clear hc3 he
        rintro e w5 ⟨rfl, hs5, hm5⟩
        have HW5 := Lib.hid (St.bel HS2.out HW2.out HW2.out.size hm5)
        have HS5 := Lib.hid hs5
        have HG := Lib.hid hg
        obtain ⟨hg1, hg2, _⟩ := hg
        have hg1I : (40 : Int) ≤ (H.length : Int) := by omega
        have hg2I : (H.length : Int) ≤ (40 : Int) := by omega
        have hx1 : decide (H.length < 40) = false := decide_eq_false (by omega)
        have hx2 : decide (40 < H.length) = false := decide_eq_false (by omega)
        have hx3 : decide ((H.length : Int) < (40 : Int)) = false := decide_eq_false (by omega)
        have hx4 : decide ((40 : Int) < (H.length : Int)) = false := decide_eq_false (by omega)
        clear hs5 hm5
        go_wp2_with fail
        have hc4 := HS5.out.len (by omega) 1
        rw [TM_len] at hc4
        dsimp only at hc4
        refine hc4.mono ?_
        clear hc4
        rintro e w6 ⟨rfl, hb6⟩
        have HW6 := Lib.hid (HW5.out.trans (hb6.mono HW5.out.size))
        obtain ⟨F6, hs6⟩ : ∃ F6, St W.heap.size w6 F6 a (TM H [] (s + 1)) ((c + 1) + 1) := ⟨_, HS5.out.below hb6⟩
        have HS6 := Lib.hid hs6
        clear hb6 hs6 HS5 HW5
        go_wp2_with fail
        go_loopw [16] (fun iv wr => R2 W a H (s + 1) ((c + 1) + 1) F6 iv wr) (fun iv _ => H.length - (intOf iv).toNat)
        case atStart => exact ⟨0, Nat.zero_le _, rfl, HW6.out, HS6.out⟩
        case round =>
          obtain ⟨i, hi, rfl, hbl, hst⟩ := hrel
          have HBL2 := Lib.hid hbl
          have HST2 := Lib.hid hst
          clear hbl hst
          by_cases hlt2 : i < H.length
          · have hltI : (i : Int) < (H.length : Int) := by omega
            obtain ⟨ad, hA, hcb⟩ := byteAt HB.out (i := i) (by rw [HN.out]; omega)
            subst hA
            have HCB2 := Lib.hid hcb
            have hiN : (i : Int) < (n : Int) := by omega
            clear hcb
            obtain ⟨x, hx⟩ : ∃ x, H[i]? = some x := ⟨_, List.getElem?_eq_getElem hlt2⟩
            have hx64 := good_len64 (blkOf bs) (blkOf_len bs) HG.out hx
            have hcases : (x = blkOf bs i ∧ (i + 1 ≠ H.length ∨ i < 40)) ∨ (i + 1 = H.length ∧ 40 ≤ i ∧ x = blkOf bs i) ∨ (i + 1 = H.length ∧ 40 ≤ i ∧ x ≠ blkOf bs i ∧ x = torn (blkOf bs i)) := by
              by_cases e : x = blkOf bs i
              · by_cases e2 : i + 1 = H.length ∧ 40 ≤ i
                · exact .inr (.inl ⟨e2.1, e2.2, e⟩)
                · exact .inl ⟨e, by omega⟩
              · rcases HG.out.2.2 i hlt2 with h | ⟨h1, h2, h⟩
                · rw [hx] at h; injection h with h; exact absurd h e
                · rw [hx] at h; injection h with h; exact .inr (.inr ⟨h1, h2, e, h⟩)
            have hrd := HST2.out.read (by omega) 1 (i : Int)
            rw [TM_read H (s + 1) i hx] at hrd
            simp only [Option.getD_some] at hrd
            have HX64 := Lib.hid hx64
            clear hx hx64
            go_wp2_with fail
            refine hrd.mono ?_
            clear hrd
            rintro e w7 ⟨Ax, mx, cx, rfl, hl7, hh7, hb7⟩
            have HW7 := Lib.hid (HBL2.out.trans (hb7.mono HBL2.out.size))
            have HS7 := Lib.hid (HST2.out.below hb7)
            have HH7 := Lib.hid hh7
            obtain rfl : mx = 64 := hl7.trans HX64.out
            have hcb7 := HCB2.out w7 HW7.out
            clear hb7 hh7 hl7
            go_wp2_with fail
            refine (full_any w7 (bs.getD i 0)).mono ?_
            rintro e w8 ⟨g8, rfl, ho8, hb8⟩
            have HW8 := Lib.hid (HW7.out.trans (hb8.mono HW7.out.size))
            have HS8 := Lib.hid (HS7.out.below hb8)
            have HH8 := Lib.hid (HH7.out.below hb8)
            have HO8 := Lib.hid ho8
            clear hb8 ho8 hcb7 HH7 HS7 HW7
            have hsm := same_any Ax (some ⟨g8, 0, none⟩) x (blkOf bs i) 64 64 cx 64 w8 HX64.out (blkOf_len bs i) HH8.out.1 HO8.out.bat
            rcases hcases with ⟨hxe, hor⟩ | ⟨hi1, hji, hxe⟩ | ⟨hi1, hji, hxn, hxe⟩
            · rw [decide_eq_true hxe] at hsm
              have HOR := Lib.hid hor
              clear hxe hor
              by_cases hlast : i + 1 = H.length
              · have hjlt : (i : Int) < (40 : Int) := by have := HOR.out; omega
                have hl1 : ((i : Int) == (H.length : Int) - 1) = true := by rw [beq_iff_eq]; omega
                have hsub : IntKind.i64.wrap ((H.length : Int) - 1) = (H.length : Int) - 1 := IntWalk.i64_in _ (by omega)
                clear hlast
                go_wp2_with fail
                refine hsm.mono ?_
                clear hsm
                rintro e _ ⟨rfl, rfl⟩
                go_wp2_with fail
                go_roundw
                case rel =>
                  exact ⟨i + 1, hlt2, by simp, HW8.out, HS8.out⟩
                case measure => simp [intOf]; omega
              · have hl1 : ((i : Int) == (H.length : Int) - 1) = false := by rw [beq_eq_false_iff_ne]; omega
                have hsub : IntKind.i64.wrap ((H.length : Int) - 1) = (H.length : Int) - 1 := IntWalk.i64_in _ (by omega)
                clear hlast
                go_wp2_with fail
                refine hsm.mono ?_
                clear hsm
                rintro e _ ⟨rfl, rfl⟩
                go_wp2_with fail
                go_roundw
                case rel =>
                  exact ⟨i + 1, hlt2, by simp, HW8.out, HS8.out⟩
                case measure => simp [intOf]; omega
            · rw [decide_eq_true hxe] at hsm
              have hl1 : ((i : Int) == (H.length : Int) - 1) = true := by rw [beq_iff_eq]; omega
              have hsub : IntKind.i64.wrap ((H.length : Int) - 1) = (H.length : Int) - 1 := IntWalk.i64_in _ (by omega)
              have hjiI : (40 : Int) ≤ (i : Int) := by omega
              have HXE := Lib.hid hxe
              clear hxe 
              go_wp2_with fail
              refine hsm.mono ?_
              clear hsm
              rintro e _ ⟨rfl, rfl⟩
              have hcb8 := HCB2.out w8 HW8.out
              go_wp2_with fail
              refine (full_any w8 (bs.getD i 0)).mono ?_
              rintro e w9 ⟨g9, rfl, ho9, hb9⟩
              obtain ⟨hblk9, hlt9⟩ := own_blk ho9
              obtain ⟨wA, hrunA, hbA, hgA⟩ := run_append_half hblk9 (fullB_len _)
              have hbA9 : Below w8.heap.size w8 wA := hb9.grown hgA hb9.size (fun q hq => by injection hq with hq; omega)
              have HW9 := Lib.hid (HW8.out.trans (hbA9.mono HW8.out.size))
              have HS9 := Lib.hid (HS8.out.below hbA9)
              have hsm2 := same_any Ax (some ⟨g9, 0, none⟩) x (torn (blkOf bs i)) 64 64 cx 64 wA HX64.out (torn_len (blkOf_len bs i)) (HH8.out.below hbA9).1 hbA.bat
              generalize decide (x = torn (blkOf bs i)) = bb at hsm2
              have HRA := Lib.hid hrunA
              clear ho9 hb9 hblk9 hlt9 hrunA hbA hgA hbA9 hcb8
              go_wp2_with
                (refine wpList_append_want (o := ⟨some 141, _, _, _, _, _⟩) (by rfl) (.tmp 140) (.const (.int .i64 32)) 28 3 rfl _ _ _ _ rfl rfl HRA.out ?_)
              refine hsm2.mono ?_
              clear hsm2
              rintro e _ ⟨rfl, rfl⟩
              go_wp2_with fail
              go_roundw
              case rel =>
                exact ⟨i + 1, hlt2, by simp, HW9.out, HS9.out⟩
              case measure => simp [intOf]; omega
            · rw [decide_eq_false hxn] at hsm
              have hl1 : ((i : Int) == (H.length : Int) - 1) = true := by rw [beq_iff_eq]; omega
              have hsub : IntKind.i64.wrap ((H.length : Int) - 1) = (H.length : Int) - 1 := IntWalk.i64_in _ (by omega)
              have hjiI : (40 : Int) ≤ (i : Int) := by omega
              have HXE := Lib.hid hxe
              clear hxe hxn
              go_wp2_with fail
              refine hsm.mono ?_
              clear hsm
              rintro e _ ⟨rfl, rfl⟩
              have hcb8 := HCB2.out w8 HW8.out
              go_wp2_with fail
              refine (full_any w8 (bs.getD i 0)).mono ?_
              rintro e w9 ⟨g9, rfl, ho9, hb9⟩
              obtain ⟨hblk9, hlt9⟩ := own_blk ho9
              obtain ⟨wA, hrunA, hbA, hgA⟩ := run_append_half hblk9 (fullB_len _)
              have hbA9 : Below w8.heap.size w8 wA := hb9.grown hgA hb9.size (fun q hq => by injection hq with hq; omega)
              have HW9 := Lib.hid (HW8.out.trans (hbA9.mono HW8.out.size))
              have HS9 := Lib.hid (HS8.out.below hbA9)
              have hsm2 := same_any Ax (some ⟨g9, 0, none⟩) x (torn (blkOf bs i)) 64 64 cx 64 wA HX64.out (torn_len (blkOf_len bs i)) (HH8.out.below hbA9).1 hbA.bat
              rw [decide_eq_true HXE.out] at hsm2
              have HRA := Lib.hid hrunA
              clear ho9 hb9 hblk9 hlt9 hrunA hbA hgA hbA9 hcb8
              go_wp2_with
                (refine wpList_append_want (o := ⟨some 141, _, _, _, _, _⟩) (by rfl) (.tmp 140) (.const (.int .i64 32)) 28 3 rfl _ _ _ _ rfl rfl HRA.out ?_)
              refine hsm2.mono ?_
              clear hsm2
              rintro e _ ⟨rfl, rfl⟩
              go_wp2_with fail
              go_roundw
              case rel =>
                exact ⟨i + 1, hlt2, by simp, HW9.out, HS9.out⟩
              case measure => simp [intOf]; omega
          · obtain rfl : i = H.length := by omega
            have hc9 := full_any w6 5
            clear hc9
            have hf := full_any wr 5
            rw [show V8 5 = 5 from rfl] at hf
            go_wp2_with fail
            refine hf.mono ?_
            clear hf
            rintro e w7 ⟨g7, rfl, ho7, hb7⟩
            have HW7 := Lib.hid (HBL2.out.trans (hb7.mono HBL2.out.size))
            have HS7 := Lib.hid (HST2.out.below hb7)
            have hc8 := HS7.out.append HW7.out.size (by omega) 1 (some ⟨g7, 0, none⟩) 64 64 (fullB 5) ho7.bat (fullB_len 5)
            rw [TM_append (blkOf bs) (blkOf_len bs) H [] (s + 1) H.length (by simp) (by simp) _ (fullB_len 5)] at hc8
            clear ho7 hb7
            by_cases h40b : H.length = 40
            · rw [if_pos h40b] at hc8
              dsimp only at hc8
              have h40c : ((H.length : Int) == 40) = true := by rw [beq_iff_eq]; omega
              clear h40b
              go_wp2_with fail
              refine hc8.mono ?_
              clear hc8
              rintro e w9 ⟨rfl, hs9, hm9⟩
              have HW9 := Lib.hid (St.bel HS7.out HW7.out HW7.out.size hm9)
              clear hs9 hm9
              go_wp2_with fail
              go_ret
              exact ⟨rfl, HW9.out⟩
            · rw [if_neg h40b] at hc8
              dsimp only at hc8
              have h40c : ((H.length : Int) == 40) = false := by rw [beq_eq_false_iff_ne]; omega
              clear h40b
              go_wp2_with fail
              refine hc8.mono ?_
              clear hc8
              rintro e w9 ⟨rfl, hs9, hm9⟩
              have HW9 := Lib.hid (St.bel HS7.out HW7.out HW7.out.size hm9)
              clear hs9 hm9
              go_wp2_with fail
              go_ret
              exact ⟨rfl, HW9.out⟩
      · have hieq : ((f : Int) == (40 : Int)) = false := by rw [beq_eq_false_iff_ne]; omega
        obtain rfl : j = f := by omega
        go_wp2_with fail
        obtain ⟨H, he, hg⟩ := TM_boot (blkOf bs) keep j k s
        have hc3 := HST.out.boot HBL.out.size (by omega) AK nk ck keep (HK.out.below HBL.out) HKL.out (fun hne ad hA hF => by
          have h1 := iat_lt HK.out hne ad hA
          have h2 := (HST.out.lt _ hF).1
          omega) hnk
        rw [he] at hc3
        refine hc3.mono ?_
        clear hc3 he
        rintro e w5 ⟨rfl, hs5, hm5⟩
        have HW5 := Lib.hid (St.bel HST.out HBL.out HBL.out.size hm5)
        have HS5 := Lib.hid hs5
        have HG := Lib.hid hg
        obtain ⟨hg1, hg2, _⟩ := hg
        have hg1I : (j : Int) ≤ (H.length : Int) := by omega
        have hg2I : (H.length : Int) ≤ (40 : Int) := by omega
        have hx1 : decide (H.length < j) = false := decide_eq_false (by omega)
        have hx2 : decide (40 < H.length) = false := decide_eq_false (by omega)
        have hx3 : decide ((H.length : Int) < (j : Int)) = false := decide_eq_false (by omega)
        have hx4 : decide ((40 : Int) < (H.length : Int)) = false := decide_eq_false (by omega)
        clear hs5 hm5
        go_wp2_with fail
        have hc4 := HS5.out.len (by omega) 1
        rw [TM_len] at hc4
        dsimp only at hc4
        refine hc4.mono ?_
        clear hc4
        rintro e w6 ⟨rfl, hb6⟩
        have HW6 := Lib.hid (HW5.out.trans (hb6.mono HW5.out.size))
        obtain ⟨F6, hs6⟩ : ∃ F6, St W.heap.size w6 F6 a (TM H [] s) (c + 1) := ⟨_, HS5.out.below hb6⟩
        have HS6 := Lib.hid hs6
        clear hb6 hs6 HS5 HW5
        go_wp2_with fail
        go_loopw [16] (fun iv wr => R2 W a H s (c + 1) F6 iv wr) (fun iv _ => H.length - (intOf iv).toNat)
        case atStart => exact ⟨0, Nat.zero_le _, rfl, HW6.out, HS6.out⟩
        case round =>
          obtain ⟨i, hi, rfl, hbl, hst⟩ := hrel
          have HBL2 := Lib.hid hbl
          have HST2 := Lib.hid hst
          clear hbl hst
          by_cases hlt2 : i < H.length
          · have hltI : (i : Int) < (H.length : Int) := by omega
            obtain ⟨ad, hA, hcb⟩ := byteAt HB.out (i := i) (by rw [HN.out]; omega)
            subst hA
            have HCB2 := Lib.hid hcb
            have hiN : (i : Int) < (n : Int) := by omega
            clear hcb
            obtain ⟨x, hx⟩ : ∃ x, H[i]? = some x := ⟨_, List.getElem?_eq_getElem hlt2⟩
            have hx64 := good_len64 (blkOf bs) (blkOf_len bs) HG.out hx
            have hcases : (x = blkOf bs i ∧ (i + 1 ≠ H.length ∨ i < j)) ∨ (i + 1 = H.length ∧ j ≤ i ∧ x = blkOf bs i) ∨ (i + 1 = H.length ∧ j ≤ i ∧ x ≠ blkOf bs i ∧ x = torn (blkOf bs i)) := by
              by_cases e : x = blkOf bs i
              · by_cases e2 : i + 1 = H.length ∧ j ≤ i
                · exact .inr (.inl ⟨e2.1, e2.2, e⟩)
                · exact .inl ⟨e, by omega⟩
              · rcases HG.out.2.2 i hlt2 with h | ⟨h1, h2, h⟩
                · rw [hx] at h; injection h with h; exact absurd h e
                · rw [hx] at h; injection h with h; exact .inr (.inr ⟨h1, h2, e, h⟩)
            have hrd := HST2.out.read (by omega) 1 (i : Int)
            rw [TM_read H s i hx] at hrd
            simp only [Option.getD_some] at hrd
            have HX64 := Lib.hid hx64
            clear hx hx64
            go_wp2_with fail
            refine hrd.mono ?_
            clear hrd
            rintro e w7 ⟨Ax, mx, cx, rfl, hl7, hh7, hb7⟩
            have HW7 := Lib.hid (HBL2.out.trans (hb7.mono HBL2.out.size))
            have HS7 := Lib.hid (HST2.out.below hb7)
            have HH7 := Lib.hid hh7
            obtain rfl : mx = 64 := hl7.trans HX64.out
            have hcb7 := HCB2.out w7 HW7.out
            clear hb7 hh7 hl7
            go_wp2_with fail
            refine (full_any w7 (bs.getD i 0)).mono ?_
            rintro e w8 ⟨g8, rfl, ho8, hb8⟩
            have HW8 := Lib.hid (HW7.out.trans (hb8.mono HW7.out.size))
            have HS8 := Lib.hid (HS7.out.below hb8)
            have HH8 := Lib.hid (HH7.out.below hb8)
            have HO8 := Lib.hid ho8
            clear hb8 ho8 hcb7 HH7 HS7 HW7
            have hsm := same_any Ax (some ⟨g8, 0, none⟩) x (blkOf bs i) 64 64 cx 64 w8 HX64.out (blkOf_len bs i) HH8.out.1 HO8.out.bat
            rcases hcases with ⟨hxe, hor⟩ | ⟨hi1, hji, hxe⟩ | ⟨hi1, hji, hxn, hxe⟩
            · rw [decide_eq_true hxe] at hsm
              have HOR := Lib.hid hor
              clear hxe hor
              by_cases hlast : i + 1 = H.length
              · have hjlt : (i : Int) < (j : Int) := by have := HOR.out; omega
                have hl1 : ((i : Int) == (H.length : Int) - 1) = true := by rw [beq_iff_eq]; omega
                have hsub : IntKind.i64.wrap ((H.length : Int) - 1) = (H.length : Int) - 1 := IntWalk.i64_in _ (by omega)
                clear hlast
                go_wp2_with fail
                refine hsm.mono ?_
                clear hsm
                rintro e _ ⟨rfl, rfl⟩
                go_wp2_with fail
                go_roundw
                case rel =>
                  exact ⟨i + 1, hlt2, by simp, HW8.out, HS8.out⟩
                case measure => simp [intOf]; omega
              · have hl1 : ((i : Int) == (H.length : Int) - 1) = false := by rw [beq_eq_false_iff_ne]; omega
                have hsub : IntKind.i64.wrap ((H.length : Int) - 1) = (H.length : Int) - 1 := IntWalk.i64_in _ (by omega)
                clear hlast
                go_wp2_with fail
                refine hsm.mono ?_
                clear hsm
                rintro e _ ⟨rfl, rfl⟩
                go_wp2_with fail
                go_roundw
                case rel =>
                  exact ⟨i + 1, hlt2, by simp, HW8.out, HS8.out⟩
                case measure => simp [intOf]; omega
            · rw [decide_eq_true hxe] at hsm
              have hl1 : ((i : Int) == (H.length : Int) - 1) = true := by rw [beq_iff_eq]; omega
              have hsub : IntKind.i64.wrap ((H.length : Int) - 1) = (H.length : Int) - 1 := IntWalk.i64_in _ (by omega)
              have hjiI : (j : Int) ≤ (i : Int) := by omega
              have HXE := Lib.hid hxe
              clear hxe 
              go_wp2_with fail
              refine hsm.mono ?_
              clear hsm
              rintro e _ ⟨rfl, rfl⟩
              have hcb8 := HCB2.out w8 HW8.out
              go_wp2_with fail
              refine (full_any w8 (bs.getD i 0)).mono ?_
              rintro e w9 ⟨g9, rfl, ho9, hb9⟩
              obtain ⟨hblk9, hlt9⟩ := own_blk ho9
              obtain ⟨wA, hrunA, hbA, hgA⟩ := run_append_half hblk9 (fullB_len _)
              have hbA9 : Below w8.heap.size w8 wA := hb9.grown hgA hb9.size (fun q hq => by injection hq with hq; omega)
              have HW9 := Lib.hid (HW8.out.trans (hbA9.mono HW8.out.size))
              have HS9 := Lib.hid (HS8.out.below hbA9)
              have hsm2 := same_any Ax (some ⟨g9, 0, none⟩) x (torn (blkOf bs i)) 64 64 cx 64 wA HX64.out (torn_len (blkOf_len bs i)) (HH8.out.below hbA9).1 hbA.bat
              generalize decide (x = torn (blkOf bs i)) = bb at hsm2
              have HRA := Lib.hid hrunA
              clear ho9 hb9 hblk9 hlt9 hrunA hbA hgA hbA9 hcb8
              go_wp2_with
                (refine wpList_append_want (o := ⟨some 141, _, _, _, _, _⟩) (by rfl) (.tmp 140) (.const (.int .i64 32)) 28 3 rfl _ _ _ _ rfl rfl HRA.out ?_)
              refine hsm2.mono ?_
              clear hsm2
              rintro e _ ⟨rfl, rfl⟩
              go_wp2_with fail
              go_roundw
              case rel =>
                exact ⟨i + 1, hlt2, by simp, HW9.out, HS9.out⟩
              case measure => simp [intOf]; omega
            · rw [decide_eq_false hxn] at hsm
              have hl1 : ((i : Int) == (H.length : Int) - 1) = true := by rw [beq_iff_eq]; omega
              have hsub : IntKind.i64.wrap ((H.length : Int) - 1) = (H.length : Int) - 1 := IntWalk.i64_in _ (by omega)
              have hjiI : (j : Int) ≤ (i : Int) := by omega
              have HXE := Lib.hid hxe
              clear hxe hxn
              go_wp2_with fail
              refine hsm.mono ?_
              clear hsm
              rintro e _ ⟨rfl, rfl⟩
              have hcb8 := HCB2.out w8 HW8.out
              go_wp2_with fail
              refine (full_any w8 (bs.getD i 0)).mono ?_
              rintro e w9 ⟨g9, rfl, ho9, hb9⟩
              obtain ⟨hblk9, hlt9⟩ := own_blk ho9
              obtain ⟨wA, hrunA, hbA, hgA⟩ := run_append_half hblk9 (fullB_len _)
              have hbA9 : Below w8.heap.size w8 wA := hb9.grown hgA hb9.size (fun q hq => by injection hq with hq; omega)
              have HW9 := Lib.hid (HW8.out.trans (hbA9.mono HW8.out.size))
              have HS9 := Lib.hid (HS8.out.below hbA9)
              have hsm2 := same_any Ax (some ⟨g9, 0, none⟩) x (torn (blkOf bs i)) 64 64 cx 64 wA HX64.out (torn_len (blkOf_len bs i)) (HH8.out.below hbA9).1 hbA.bat
              rw [decide_eq_true HXE.out] at hsm2
              have HRA := Lib.hid hrunA
              clear ho9 hb9 hblk9 hlt9 hrunA hbA hgA hbA9 hcb8
              go_wp2_with
                (refine wpList_append_want (o := ⟨some 141, _, _, _, _, _⟩) (by rfl) (.tmp 140) (.const (.int .i64 32)) 28 3 rfl _ _ _ _ rfl rfl HRA.out ?_)
              refine hsm2.mono ?_
              clear hsm2
              rintro e _ ⟨rfl, rfl⟩
              go_wp2_with fail
              go_roundw
              case rel =>
                exact ⟨i + 1, hlt2, by simp, HW9.out, HS9.out⟩
              case measure => simp [intOf]; omega
          · obtain rfl : i = H.length := by omega
            have hc9 := full_any w6 5
            clear hc9
            have hf := full_any wr 5
            rw [show V8 5 = 5 from rfl] at hf
            go_wp2_with fail
            refine hf.mono ?_
            clear hf
            rintro e w7 ⟨g7, rfl, ho7, hb7⟩
            have HW7 := Lib.hid (HBL2.out.trans (hb7.mono HBL2.out.size))
            have HS7 := Lib.hid (HST2.out.below hb7)
            have hc8 := HS7.out.append HW7.out.size (by omega) 1 (some ⟨g7, 0, none⟩) 64 64 (fullB 5) ho7.bat (fullB_len 5)
            rw [TM_append (blkOf bs) (blkOf_len bs) H [] s H.length (by simp) (by simp) _ (fullB_len 5)] at hc8
            clear ho7 hb7
            by_cases h40b : H.length = 40
            · rw [if_pos h40b] at hc8
              dsimp only at hc8
              have h40c : ((H.length : Int) == 40) = true := by rw [beq_iff_eq]; omega
              clear h40b
              go_wp2_with fail
              refine hc8.mono ?_
              clear hc8
              rintro e w9 ⟨rfl, hs9, hm9⟩
              have HW9 := Lib.hid (St.bel HS7.out HW7.out HW7.out.size hm9)
              clear hs9 hm9
              go_wp2_with fail
              go_ret
              exact ⟨rfl, HW9.out⟩
            · rw [if_neg h40b] at hc8
              dsimp only at hc8
              have h40c : ((H.length : Int) == 40) = false := by rw [beq_eq_false_iff_ne]; omega
              clear h40b
              go_wp2_with fail
              refine hc8.mono ?_
              clear hc8
              rintro e w9 ⟨rfl, hs9, hm9⟩
              have HW9 := Lib.hid (St.bel HS7.out HW7.out HW7.out.size hm9)
              clear hs9 hm9
              go_wp2_with fail
              go_ret
              exact ⟨rfl, HW9.out⟩
end Go.Proofs.Ytomncfiklkhfjaa.Pl.Tapes
