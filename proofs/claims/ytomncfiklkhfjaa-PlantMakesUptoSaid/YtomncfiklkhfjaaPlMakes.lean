/- The walk of 'PlantMakes': a plant is made just of a shape that may be, and tells it. -/
import Derived.Test.YtomncfiklkhfjaaRefNew
import Derived.Test.YtomncfiklkhfjaaPlShown
import Derived.Deep.QuietTactic
import Derived.BigQuiet
namespace Go.Proofs.Ytomncfiklkhfjaa.Pl.Makes
open Go Go.RowKit Mem Ref
theorem newM_parts {zs1 zs2 : List Int} {p : PM} (h : newM zs1 zs2 = some p) : p.disks = zs1.map Int.toNat ∧ p.tapes = zs2.map Int.toNat ∧ (∀ z ∈ zs1 ++ zs2, okN z) ∧ zs1.length + zs2.length ≤ 12 := by
  unfold newM at h
  split at h
  · cases h
  · rename_i hz
    injection h with h
    subst h
    refine ⟨rfl, rfl, fun z hzm => ?_, ?_⟩
    · have h1 : ¬ (zs1 ++ zs2).any (fun n => n < 1 || 4096 < n) = true := fun h => hz (.inr (.inr h))
      have h2 : ¬ (z < 1 ∨ 4096 < z) := fun h => h1 (List.any_eq_true.2 ⟨z, hzm, by simpa using h⟩)
      unfold okN
      omega
    · omega
/-- The own copy is written over. -/
def M1 (W : World) (a n1 c1 : Nat) (B1 : Option Addr) (F FC : Nat → Prop) (p : PM) (sh : Array Value) (S : Nat) (iv : Value) (wr : World) : Prop :=
  ∃ (i : Nat) (xs : List Value), i ≤ n1 ∧ iv = .int .i64 (i : Int) ∧ Below W.heap.size W wr ∧ PlantAt wr F a p ∧ Vec wr FC 3 1 (.slice B1 n1 c1) n1 xs ∧ Blk wr S 44 sh
set_option maxRecDepth 100000 in
set_option maxHeartbeats 16000000 in
theorem lawMakes (A1 A2 : Option Addr) (n1 n2 k1 k2 : Nat) (zs1 zs2 : List Int) (W : World) (h1 : IAt W A1 zs1) (h2 : IAt W A2 zs2) (hl1 : zs1.length = n1) (hl2 : zs2.length = n2) (hn1 : n1 ≤ 1000000000) (hn2 : n2 ≤ 1000000000) :
    Calls Try.prog 8 #[.agg #[.slice A1 n1 k1, .slice A2 n2 k2]] W fun e W' => e = .returned (.bool true) ∧ Below W.heap.size W W' := by
  have H1 := Lib.hid h1
  have H2 := Lib.hid h2
  have HL1 := Lib.hid hl1
  have HL2 := Lib.hid hl2
  have hs0 := Blk.new W 44 #[.slice A1 n1 k1, .slice A2 n2 k2]
  have HS0 := Lib.hid hs0
  have hb0 : Below W.heap.size W (W.alloc (.cells #[.slice A1 n1 k1, .slice A2 n2 k2] 44)) := below_al' _
  have HB0 := Lib.hid hb0
  clear h1 h2 hl1 hl2 hs0 hb0
  go_enter Try.func8, Try.ntmps8
  go_wp2_with fail
  refine (shown_any _).mono ?_
  rintro e w1 ⟨rfl, hb1⟩
  have hs1 := HS0.out.below_ hb1
  have HS1 := Lib.hid hs1
  have HW1 : Hid (Below W.heap.size W w1) := Lib.hid (HB0.out.trans (hb1.mono HB0.out.size))
  have c0 := (hs1.cell 0).trans (show _ = some (.slice A1 n1 k1) from rfl)
  have c1 := (hs1.cell 1).trans (show _ = some (.slice A2 n2 k2) from rfl)
  have hlt1 := hs1.lt
  clear hb1 hs1 HS0 HB0
  go_wp2_with
    (at_builtin
     refine wpList_copy_ints rfl (.tmp 15) (.tmp 17) rfl _ rfl A1 n1 k1 zs1 rfl (H1.out.below (HW1.out.trans ((below_al' _).mono HW1.out.size))) HL1.out (by omega) ?_
     intro B1 d1 w2 hv2 hb2
     have HV2 := Lib.hid hv2
     have HB2 := Lib.hid hb2
     have HW2 : Hid (Below W.heap.size W w2) := Lib.hid ((HW1.out.trans ((below_al' _).mono HW1.out.size)).trans (hb2.mono (HW1.out.trans ((below_al' _).mono HW1.out.size)).size))
     have hs2 := (HS1.out.alloc (.cells #[] 3)).below_ hb2
     have HS2 := Lib.hid hs2
     have c2 := (hs2.cell 0).trans (show _ = some (.slice A1 n1 k1) from rfl)
     have c3 := (hs2.cell 1).trans (show _ = some (.slice A2 n2 k2) from rfl)
     have hlt2 := hs2.lt
     clear hv2 hb2 hs2 c0 c1
     go_wp2_with
       (at_builtin
        refine wpList_copy_ints rfl (.tmp 19) (.tmp 21) rfl _ rfl A2 n2 k2 zs2 rfl (H2.out.below (HW2.out.trans ((below_al' _).mono HW2.out.size))) HL2.out (by omega) ?_
        intro B2 d2 w3 hv3 hb3
        have HV3 := Lib.hid hv3
        have HB3 : Hid (Below w2.heap.size w2 w3) := Lib.hid (below_al hb3)
        have HW3 : Hid (Below W.heap.size W w3) := Lib.hid (HW2.out.trans (HB3.out.mono HW2.out.size))
        have hs3 := HS2.out.below_ HB3.out
        have HS3 := Lib.hid hs3
        have c4 := (hs3.cell 0).trans (show _ = some (.slice A1 n1 k1) from rfl)
        have c5 := (hs3.cell 1).trans (show _ = some (.slice A2 n2 k2) from rfl)
        have hlt3 := hs3.lt
        clear hv3 hb3 hs3 c2 c3))
  have hv23 : Vec w3 (New w1 w2) 3 1 (.slice B1 n1 d1) n1 (zs1.map intV) := (HV2.out.below HB3.out).mono fun g hg h => ⟨Nat.le_trans (below_al' (w := w1) (.cells #[] 3)).size h.1, h.2⟩
  have HV23 := Lib.hid hv23
  have hn := new_any w3 B1 B2 n1 n2 d1 d2 zs1 zs2 (iat_of_vec hv23) (iat_of_vec HV3.out) HL1.out HL2.out hn1 hn2
  clear hv23
  refine hn.mono ?_
  clear hn
  rintro e w4 ⟨hb4, hN⟩
  have HW4 := Lib.hid (HW3.out.trans (hb4.mono HW3.out.size))
  have hs4 := HS3.out.below_ hb4
  have HS4 := Lib.hid hs4
  have c6 := (hs4.cell 0).trans (show _ = some (.slice A1 n1 k1) from rfl)
  have c7 := (hs4.cell 1).trans (show _ = some (.slice A2 n2 k2) from rfl)
  have hlt4 := hs4.lt
  have HV4 := Lib.hid (HV23.out.below hb4)
  have HB4 := Lib.hid hb4
  have hr := refNew_any w4 A1 A2 n1 n2 k1 k2 zs1 zs2 (H1.out.below HW4.out) (H2.out.below HW4.out) HL1.out HL2.out hn1 hn2
  have HR := Lib.hid hr
  clear hr hb4 hs4 c4 c5
  rcases hN with ⟨hnone, rfl⟩ | ⟨a, p, hsome, rfl, hp⟩
  · have HE := Lib.hid hnone
    clear hnone
    go_wp2_with fail
    refine HR.out.mono ?_
    rintro e w5 ⟨hb5, ⟨_, rfl⟩ | ⟨r, p, h, _⟩⟩
    · have HW5 := Lib.hid (HW4.out.trans (hb5.mono HW4.out.size))
      clear hb5
      go_wp2_with fail
      go_ret
      exact ⟨rfl, HW5.out⟩
    · rw [HE.out] at h
      cases h
  · have HE := Lib.hid hsome
    have HP := Lib.hid hp
    clear hsome hp
    go_wp2_with fail
    refine HR.out.mono ?_
    rintro e w5 ⟨hb5, ⟨h, _⟩ | ⟨r, p', h, rfl, _⟩⟩
    · rw [HE.out] at h
      cases h
    · clear h
      have HW5 := Lib.hid (HW4.out.trans (hb5.mono HW4.out.size))
      have HP5 : Hid (PlantAt w5 (New w3 w4) a p) := Lib.hid (HP.out.below hb5)
      have HV5 := Lib.hid (HV4.out.below hb5)
      have HS5 := Lib.hid (HS4.out.below_ hb5)
      have HFC : Hid (∀ g, New w1 w2 g → ¬ New w3 w4 g ∧ W.heap.size ≤ g) := Lib.hid fun g h => ⟨fun h' => by
        have e1 := h.2
        have e2 := h'.1
        have e3 := HB3.out.size
        omega, Nat.le_trans HW1.out.size h.1⟩
      obtain ⟨hd1, hd2, hok, h12⟩ := newM_parts HE.out
      have HD1 := Lib.hid hd1
      have HD2 := Lib.hid hd2
      have HOK := Lib.hid hok
      have hn1' : n1 ≤ 12 := by rw [HL1.out] at h12; omega
      have hn2' : n2 ≤ 12 := by rw [HL1.out, HL2.out] at h12; omega
      obtain ⟨hpo, _⟩ := newM_ok HE.out
      have HPO := Lib.hid hpo
      clear hb5 hd1 hd2 hok h12 hpo HV2 HB2 HW2 HS2 HV3 HB3 HW3 HS3 HV23 HW4 HS4 HV4 HB4 HR HP HW1 HS1 hlt1 hlt2 hlt3 c6 c7 hlt4
      generalize New w3 w4 = F at *
      generalize New w1 w2 = FC at *
      go_wp2_with fail
      go_loopw [10] (fun iv wr => M1 W a n1 d1 B1 F FC p #[.slice A1 n1 k1, .slice A2 n2 k2] W.heap.size iv wr) (fun iv _ => n1 - (intOf iv).toNat)
      case atStart => exact ⟨0, _, Nat.zero_le _, rfl, HW5.out, HP5.out, HV5.out, HS5.out⟩
      case round =>
        obtain ⟨i, xs, hi, rfl, hbl, hpl, hvc, hsh⟩ := hrel
        have HBL := Lib.hid hbl
        have HPL := Lib.hid hpl
        have HVC := Lib.hid hvc
        have HSH := Lib.hid hsh
        clear hbl hpl hvc hsh HW5 HP5 HV5 HS5
        by_cases hlt : i < n1
        · have hiI : (i : Int) < (n1 : Int) := by omega
          obtain ⟨g, cap', cur, he, hf, hh, hnc, hcm, hcs, htk⟩ := HVC.out.form (by omega)
          injection he with hA hnn hcc
          subst hA
          subst hcc
          have hcell := HVC.out.at_ (k := i) (u := xs.getD i (.bool false)) (by
            have := HVC.out.len
            rw [List.getD_eq_getElem?_getD, List.getElem?_eq_getElem (by omega)]
            rfl)
          have hfz := HVC.out.free (by omega) i
          have HVN := Lib.hid (HVC.out.set i (.int .i64 (-5)))
          have hfc := HFC.out g hf
          have hm3 : Mods wr.heap.size (fun j => j = g) wr (wr.setCell ⟨g, i, none⟩ (.int .i64 (-5))) := (Mods.refl wr.heap.size (fun j => j = g) wr).setCell (p := ⟨g, i, none⟩) (.inl rfl) _
          have HPN := Lib.hid (HPL.out.mods hm3 fun j hj hF => ⟨hj, fun he => hfc.1 (he ▸ hF)⟩)
          have HBN : Hid (Below W.heap.size W (wr.setCell ⟨g, i, none⟩ (.int .i64 (-5)))) := Lib.hid (HBL.out.trans ((hm3.mono HBL.out.size fun _ _ h => h).below fun j hj he => by have := hfc.2; omega))
          have HSN := Lib.hid (HSH.out.far (p := ⟨g, i, none⟩) (HSH.out.ne_ (g' := g) (t' := 3) (cs' := cur) hh (by decide)) (.int .i64 (-5)))
          clear hm3 hfc hh hcs htk hcm hnc hf hnn
          go_wp2_with fail
          go_roundw
          case rel => exact ⟨i + 1, _, hlt, by simp, HBN.out, HPN.out, HVN.out, HSN.out⟩
          case measure => simp [intOf]; omega
        · have hiI : ¬ (i : Int) < (n1 : Int) := by omega
          go_wp2_with fail
          refine (shape_any HPL.out HPO.out).mono ?_
          rintro e w6 ⟨D, T, rfl, hvd, hvt, hb6⟩
          have HW6 := Lib.hid (HBL.out.trans (hb6.mono HBL.out.size))
          have hs6 := HSH.out.below_ hb6
          have c0 := (hs6.cell 0).trans (show _ = some (.slice A1 n1 k1) from rfl)
          have c1 := (hs6.cell 1).trans (show _ = some (.slice A2 n2 k2) from rfl)
          have hlt6 := hs6.lt
          rw [HD1.out, List.length_map, HL1.out, ← map_nat (fun z hz => HOK.out z (List.mem_append_left _ hz))] at hvd
          rw [HD2.out, List.length_map, HL2.out, ← map_nat (fun z hz => HOK.out z (List.mem_append_right _ hz))] at hvt
          obtain ⟨AD, kd, rfl⟩ := hvd.shape
          obtain ⟨AT, kt, rfl⟩ := hvt.shape
          have HVD := Lib.hid hvd
          have HVT := Lib.hid hvt
          have HS6 := Lib.hid hs6
          clear hvd hvt hb6 hs6 HBL HPL HVC HSH HPO HD1 HD2 HOK HFC
          go_wp2_with fail
          have hb7 : Below w6.heap.size w6 (w6.alloc (.cells #[.slice AD n1 kd, .slice AT n2 kt] 44)) := below_al' _
          have HW7 := Lib.hid (HW6.out.trans (hb7.mono HW6.out.size))
          have HVD7 := Lib.hid (HVD.out.below hb7)
          have HVT7 := Lib.hid (HVT.out.below hb7)
          have hs7 := HS6.out.below_ hb7
          have e0 := (hs7.cell 0).trans (show _ = some (.slice A1 n1 k1) from rfl)
          have e1 := (hs7.cell 1).trans (show _ = some (.slice A2 n2 k2) from rfl)
          have e2 := ((Blk.new w6 44 #[.slice AD n1 kd, .slice AT n2 kt]).cell 0).trans (show _ = some (.slice AD n1 kd) from rfl)
          have e3 := ((Blk.new w6 44 #[.slice AD n1 kd, .slice AT n2 kt]).cell 1).trans (show _ = some (.slice AT n2 kt) from rfl)
          clear hb7 hs7 c0 c1 hlt6
          generalize (w6.alloc (.cells #[.slice AD n1 kd, .slice AT n2 kt] 44)) = w7 at *
          go_loopw [12] (fun iv wr => ∃ i q : Nat, i ≤ n1 ∧ iv = .int .i64 (i : Int) ∧ wr = w7.drewN q) (fun iv _ => n1 - (intOf iv).toNat)
          case atStart => exact ⟨0, 0, Nat.zero_le _, rfl, rfl⟩
          case round =>
            obtain ⟨j, q, hj, rfl, rfl⟩ := hrel
            by_cases hltj : j < n1
            · have hjI : (j : Int) < (n1 : Int) := by omega
              obtain ⟨z, hz⟩ : ∃ z, zs1[j]? = some z := ⟨_, List.getElem?_eq_getElem (by rw [HL1.out]; exact hltj)⟩
              obtain ⟨ad, hA, hcz⟩ : ∃ ad, A1 = some ad ∧ w7.cell? (ad.add j) = some (.int .i64 z) := by
                rcases H1.out.below HW7.out with h | ⟨ad, hA, hc⟩
                · rw [h] at hz; simp at hz
                · exact ⟨ad, hA, hc j z hz⟩
              subst hA
              obtain ⟨g, hA, hcd⟩ := HVD7.out.cell j (.int .i64 z) (by rw [List.getElem?_map, hz]; rfl)
              subst hA
              clear hz
              go_wp2_with fail
              go_quiet (fail)
              go_wp2_with fail
              go_roundw
              case rel => exact ⟨j + 1, _, hltj, by simp, rfl⟩
              case measure => simp [intOf]; omega
            · have hjI : ¬ (j : Int) < (n1 : Int) := by omega
              go_wp2_with fail
              go_loopw [13] (fun iv wr => ∃ i q : Nat, i ≤ n2 ∧ iv = .int .i64 (i : Int) ∧ wr = w7.drewN q) (fun iv _ => n2 - (intOf iv).toNat)
              case atStart => exact ⟨0, q, Nat.zero_le _, rfl, rfl⟩
              case round =>
                obtain ⟨j, q, hj, rfl, rfl⟩ := hrel
                by_cases hltj : j < n2
                · have hjI : (j : Int) < (n2 : Int) := by omega
                  obtain ⟨z, hz⟩ : ∃ z, zs2[j]? = some z := ⟨_, List.getElem?_eq_getElem (by rw [HL2.out]; exact hltj)⟩
                  obtain ⟨ad, hA, hcz⟩ : ∃ ad, A2 = some ad ∧ w7.cell? (ad.add j) = some (.int .i64 z) := by
                    rcases H2.out.below HW7.out with h | ⟨ad, hA, hc⟩
                    · rw [h] at hz; simp at hz
                    · exact ⟨ad, hA, hc j z hz⟩
                  subst hA
                  obtain ⟨g, hA, hcd⟩ := HVT7.out.cell j (.int .i64 z) (by rw [List.getElem?_map, hz]; rfl)
                  subst hA
                  clear hz
                  go_wp2_with fail
                  go_quiet (fail)
                  go_wp2_with fail
                  go_roundw
                  case rel => exact ⟨j + 1, _, hltj, by simp, rfl⟩
                  case measure => simp [intOf]; omega
                · have hjI : ¬ (j : Int) < (n2 : Int) := by omega
                  go_wp2_with fail
                  go_ret
                  exact ⟨rfl, below_drewN HW7.out _⟩
end Go.Proofs.Ytomncfiklkhfjaa.Pl.Makes
