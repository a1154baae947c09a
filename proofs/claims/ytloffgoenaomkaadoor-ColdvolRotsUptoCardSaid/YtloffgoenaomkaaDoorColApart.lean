/- The law 'ColdvolApart'. -/
import Derived.Test.YtloffgoenaomkaaDoorColTwo
import Derived.BigRegion
namespace Go.Proofs.YtloffgoenaomkaaDoor.Col
open Go Go.RowKit Mem Pl Disk Crc _root_.Go.Proofs.YtloffgoenaomkaaDoor.Frame Hash Sha
theorem xA_pc (dev N : Nat) (os : List (Nat × List UInt8 × List UInt8)) (sd : Option (List UInt8)) (id b : List UInt8) :
    ∃ x y z : Int, xA dev N os sd id b = .agg (pcV x y z).toArray ∧ 0 ≤ y ∧ y ≤ N ∧ (mayT N os sd id b = 0 → x = dev ∧ y = ((layB os).length : Int) ∧ z = ((2 + dataN b.length : Nat) : Int)) := by
  unfold xA
  split
  · rename_i h
    have hr : 2 ≤ roomT N os sd := by
      unfold mayT at h
      split at h
      · omega
      · split at h
        · omega
        · split at h
          · omega
          · omega
    have hl : (layB os).length ≤ N := by
      unfold roomT at hr
      split at hr <;> omega
    exact ⟨_, _, _, rfl, by omega, by omega, fun _ => ⟨rfl, rfl, rfl⟩⟩
  · rename_i h
    exact ⟨0, 0, 0, rfl, by omega, by omega, fun h0 => absurd h0 h⟩
theorem mayT_le (N : Nat) (os : List (Nat × List UInt8 × List UInt8)) (sd : Option (List UInt8)) (id b : List UInt8) : mayT N os sd id b ≤ 5 := by
  unfold mayT
  split
  · omega
  · split
    · omega
    · split <;> omega
section
variable {B : Nat} {w : World} {F G : Nat → Prop} {pa qa v u z n n' : Nat} {pm qm : PM} {oa ob : List (Nat × List UInt8 × List UInt8)}
theorem ApS.more (h : ApS B w F G pa qa v u z n pm qm oa ob) (hn : n ≤ n') : ApS B w F G pa qa v u z n' pm qm oa ob := ⟨h.p.more hn, h.q.more hn, h.ta, h.tb, h.tz, h.vv, h.vu, h.vz, h.d, h.gv, h.gu, h.fz⟩
end
theorem made_tapes {w : World} {B : Nat} (hB : B ≤ w.heap.size) (htb : Tb B w) (zs : List Int) (n : Nat) (hzn : zs.length = n) (h1 : ∀ z ∈ zs, 1 ≤ z ∧ z ≤ 4096) (h2 : 1 ≤ n) (h3 : n ≤ 12) :
    Calls Tryd.prog 9 #[.agg #[.slice none 0 0, .slice (some ⟨w.heap.size, 0, none⟩) n n]] (w.alloc (.cells (zs.map intV).toArray 3)) fun e w' => ∃ a F pm, e = .returned (.tuple #[.pointer (some ⟨a, 0, none⟩), .int .i64 0]) ∧ Up B w' F a pm 0 ∧ (∀ g, F g → w.heap.size ≤ g) ∧
      (∀ (j N : Nat), zs[j]? = some (N : Int) → TT pm j N [] none) ∧ pm.disks.length = 0 ∧ pm.tapes.length = n ∧ Below w.heap.size w w' := by
  have hn := Pl.new_any (w.alloc (.cells (zs.map intV).toArray 3)) none (some ⟨w.heap.size, 0, none⟩) 0 n 0 n [] zs (.inl rfl) (iat_row w zs _ rfl _) rfl hzn (by omega) (by omega)
  obtain ⟨p0, hp0⟩ : ∃ p, newM [] zs = some p := by
    unfold newM
    rw [if_neg]
    · exact ⟨_, rfl⟩
    · rintro (h | h | h)
      · rw [List.length_nil] at h; omega
      · rw [List.length_nil] at h; omega
      · obtain ⟨z, hz, hzz⟩ := List.any_eq_true.1 h
        have := h1 z (by simpa using hz)
        simp at hzz
        omega
  rw [hp0] at hn
  refine hn.mono ?_
  rintro e w' ⟨hb, ⟨h, _⟩ | ⟨a, p, h, rfl, hp⟩⟩
  · cases h
  injection h with h
  subst h
  have hb1 := below_al' (w := w) (.cells (zs.map intV).toArray 3)
  have hbb := hb1.trans (hb.mono hb1.size)
  obtain ⟨_, _, _, _, hd, ht, _⟩ := newM_ok hp0
  exact ⟨a, _, p0, rfl, Up.made hp hb (Nat.le_trans hB hb1.size) (htb.below (hb1.mono hB)) hp0, fun g hg => Nat.le_trans hb1.size hg.1, fun j N hj => TT.made hp0 hj (by simp), by rw [hd]; rfl, by rw [ht]; simpa, hbb⟩
def ApL (W : World) (l0 : List (List UInt8)) (pa qa v u z : Nat) (iv : Value) (wr : World) : Prop :=
  ∃ (i : Nat) (F G : Nat → Prop) (pm qm : PM) (oa ob : List (Nat × List UInt8 × List UInt8)), i ≤ l0.length ∧ i ≤ 8 ∧ iv = .int .i64 (i : Int) ∧ Below W.heap.size W wr ∧ ApS W.heap.size wr F G pa qa v u z (24 * i) pm qm oa ob
set_option maxRecDepth 100000 in
set_option maxHeartbeats 16000000 in
theorem lawApart (A0 A1 : Option Addr) (n0 n1 c0 c1 : Nat) (l0 l1 : List (List UInt8)) (W : World) (htb : Tb W.heap.size W) (h0 : RowsAt W A0 l0) (hn0 : l0.length = n0) (h1 : RowsAt W A1 l1) (hn1 : l1.length = n1)
    (hL0 : ∀ b ∈ l0, b.length ≤ 9223372036854775807) (hL1 : ∀ b ∈ l1, b.length ≤ 9223372036854775807) :
    Calls Tryd.prog 3 #[.slice A0 n0 c0, .slice A1 n1 c1] W fun e W' => e = .returned (.bool true) ∧ Below W.heap.size W W' := by
  have HT := Lib.hid htb
  have H0 := Lib.hid h0
  have H1 := Lib.hid h1
  have HN := Lib.hid (⟨hn0, hn1, hL0, hL1⟩ : _ ∧ _ ∧ _ ∧ _)
  have HSH := Lib.hid (shown_any W htb)
  clear htb h0 h1 hn0 hn1 hL0 hL1
  go_enter Tryd.func3, Tryd.ntmps3
  go_wp2_with fail
  refine HSH.out.mono ?_
  rintro e w0 ⟨rfl, hb0⟩
  have HB0 := Lib.hid hb0
  have HMD := Lib.hid (made_tapes (w := w0) (B := W.heap.size) hb0.size (HT.out.below hb0) [90, 90] 2 rfl (by simp) (by omega) (by omega))
  clear hb0 HSH
  go_wp2_with fail
  refine HMD.out.mono ?_
  rintro e w1 ⟨pa, F1, pm, rfl, hu, hF, ht, _, _, hb1⟩
  have HUP := Lib.hid hu
  have HTA := Lib.hid (ht 0 90 rfl)
  have HTB := Lib.hid (ht 1 90 rfl)
  have HB1 := Lib.hid (HB0.out.trans (hb1.mono HB0.out.size))
  have HMD2 := Lib.hid (made_tapes (w := w1) (B := W.heap.size) HB1.out.size (HT.out.below HB1.out) [90, 90] 2 rfl (by simp) (by omega) (by omega))
  clear hu hF ht hb1 HMD HB0
  go_wp2_with fail
  refine HMD2.out.mono ?_
  rintro e w2 ⟨qa, G1, qm, rfl, hq, hG, ht, _, _, hb2⟩
  have HUQ := Lib.hid hq
  have HTZ := Lib.hid (ht 0 90 rfl)
  have HUP2 := Lib.hid (HUP.out.below hb2)
  have HD := Lib.hid (fun g h1 h2 => by have := (HUP.out.st.lt g h1).2; have := hG g h2; omega : ∀ g, F1 g → ¬ G1 g)
  have HB2 := Lib.hid (HB1.out.trans (hb2.mono HB1.out.size))
  have HOP := Lib.hid (HUP2.out.opened HTA.out)
  clear hq hG ht hb2 HMD2 HB1 HUP
  go_wp2_with fail
  refine HOP.out.mono ?_
  rintro e w3 ⟨hb3, v, rfl, hv3, hvb⟩
  have HV3 := Lib.hid hvb
  have HGV : Hid (¬ G1 v) := Lib.hid (fun h => by have := (HUQ.out.st.lt v h).2; omega)
  have HUP3 := Lib.hid (HUP2.out.below hb3)
  have HUQ3 := Lib.hid (HUQ.out.below hb3)
  have HB3 := Lib.hid (HB2.out.trans (hb3.mono HB2.out.size))
  have HOP := Lib.hid (HUP3.out.opened HTB.out)
  clear hb3 hvb hv3 HUP2 HUQ HB2
  go_wp2_with fail
  refine HOP.out.mono ?_
  rintro e w4 ⟨hb4, u, rfl, hv4, hvb⟩
  have HU4 := Lib.hid hvb
  have HV4 := Lib.hid (HV3.out.below hb4)
  have HGU : Hid (¬ G1 u) := Lib.hid (fun h => by have := (HUQ3.out.st.lt u h).2; omega)
  have HUP4 := Lib.hid (HUP3.out.below hb4)
  have HUQ4 := Lib.hid (HUQ3.out.below hb4)
  have HB4 := Lib.hid (HB3.out.trans (hb4.mono HB3.out.size))
  have HOP := Lib.hid (HUQ4.out.opened HTZ.out)
  clear hb4 hvb hv4 HUP3 HUQ3 HB3 HV3
  go_wp2_with fail
  refine HOP.out.mono ?_
  rintro e w5 ⟨hb5, z, rfl, hv5, hvb⟩
  have HFZ : Hid (¬ F1 z) := Lib.hid (fun h => by have := (HUP4.out.st.lt z h).2; omega)
  have HS := Lib.hid (⟨HUP4.out.below hb5, HUQ4.out.below hb5, HTA.out, HTB.out, HTZ.out, HV4.out.below hb5, HU4.out.below hb5, hvb, HD.out, HGV.out, HGU.out, HFZ.out⟩ : ApS W.heap.size w5 F1 G1 pa qa v u z 0 pm qm [] [])
  have HB5 := Lib.hid (HB4.out.trans (hb5.mono HB4.out.size))
  clear hb5 hvb hv5 HUP4 HUQ4 HB4 HV4 HU4 HOP HTA HTB HTZ HD HGV HGU HFZ
  go_wp2_with fail
  go_loopw [14] (fun iv wr => ApL W l0 pa qa v u z iv wr) (fun iv _ => 8 - (intOf iv).toNat)
  case atStart => exact ⟨0, _, _, _, _, _, _, Nat.zero_le _, by omega, rfl, HB5.out, HS.out⟩
  case round =>
    obtain ⟨i, F, G, pm2, qm2, oa, ob, hi, hi8, rfl, hbw, hs⟩ := hrel
    have HBW := Lib.hid hbw
    have HSW := Lib.hid hs
    have hNB := HBW.out.size
    clear hbw hs HS HB5
    by_cases hgo : i < n0 ∧ i < 8
    · obtain ⟨hlt, hlt8⟩ := hgo
      have hltI : (i : Int) < (n0 : Int) := by omega
      have hlt8I : (i : Int) < 8 := by omega
      obtain ⟨b, hb⟩ : ∃ b, l0[i]? = some b := ⟨_, List.getElem?_eq_getElem (by rw [HN.out.1]; exact hlt)⟩
      have HNB := Lib.hid (⟨hb, HN.out.2.2.1 b (List.mem_of_getElem? hb)⟩ : _ ∧ _)
      clear hb
      go_upto_if 111 with fail
      go_cut [15, 16, 17, 18, 19] from 111 to 131 (fun _ _ _ _ _ wc => ∃ F2 pm3 ob2, ApS W.heap.size wc F2 G pa qa v u z (24 * i + 12) pm3 qm2 oa ob2 ∧ Below W.heap.size W wc)
      case first =>
        by_cases hib : i < n1
        · have hibI : (i : Int) < (n1 : Int) := by omega
          have hibd : decide ((i : Int) < (n1 : Int)) = true := decide_eq_true hibI
          obtain ⟨b1, hb1⟩ : ∃ b, l1[i]? = some b := ⟨_, List.getElem?_eq_getElem (by rw [HN.out.2.1]; exact hib)⟩
          have hl1 := HN.out.2.2.2 b1 (List.mem_of_getElem? hb1)
          obtain ⟨ad, AB, cb, hA, hcell, hbat, hbc, hbn⟩ := (H1.out.below HBW.out) i b1 hb1
          subst hA
          have HAP := Lib.hid (HSW.out.onU (by omega) [98] (by decide) AB b1.length cb b1 hbat rfl hbc (by omega) hbn)
          obtain ⟨xx, xy, xz, hx, hy0, hy1, hx0⟩ := xA_pc 1 90 ob none [98] b1
          have hml := mayT_le 90 ob none [98] b1
          rw [hx] at HAP
          have HX0 := Lib.hid hx0
          obtain ⟨mt, hmt⟩ : ∃ mt, mayT 90 ob none [98] b1 = mt := ⟨_, rfl⟩
          rw [hmt] at HAP hml HX0
          clear hb1 hbat hib hx hx0 hmt
          go_wp2_with fail
          refine HAP.out.mono ?_
          rintro e w6 ⟨F6, pm6, hs6, hb6, rfl⟩
          have HS6 := Lib.hid hs6
          have HB6 := Lib.hid (HBW.out.trans (hb6.mono (Nat.le_refl _)))
          clear hs6 hb6 HAP hcell
          by_cases hm0 : mt = 0
          · have HQ0 := Lib.hid (HX0.out hm0)
            subst hm0
            rw [show ((0 : Nat) : Int) = 0 from rfl]
            go_wp2_with
              (refine wpList_store_all rfl 35 (.tmp 15) (.tmp 119) rfl w6.heap.size 35 (pcV 0 0 0) (pcV xx xy xz) rfl rfl (Blk.new w6 _ _) rfl (by kernel_rfl) (pcV_one _ _ _) ?_
               intro w7 hb7 hg7 hz7
               have c0 := hb7.cell 0
               have c1 := hb7.cell 1
               have c2 := hb7.cell 2
               have c3 := hb7.cell 3
               simp [pcV] at c0 c1 c2 c3
               have hbw7 : Below w6.heap.size w6 w7 := (below_al' (w := w6) (.cells (pcV 0 0 0).toArray 35)).grown hg7 (by simp) (fun k hk => by injection hk with hk; omega)
               have HS7 := Lib.hid (HS6.out.below hbw7)
               have HB7 := Lib.hid (HB6.out.trans (hbw7.mono HB6.out.size))
               clear hb7 hg7 hz7 hbw7)
            have HRD := Lib.hid (HS7.out.p.read HS7.out.ta HS7.out.vv (by omega) xx xy xz false (by omega))
            refine HRD.out.mono ?_
            rintro e w8 ⟨o, hans, hb8, hr⟩
            obtain rfl : o = none := by
              cases o with
              | none => rfl
              | some k => have := ((hans k.1 k.2).1 rfl).1; have := HQ0.out; omega
            obtain rfl : e = .returned (.tuple #[.string (Rec.S8 []), .slice none 0 0, .int .i64 4]) := by
              rcases hr with ⟨_, h⟩ | ⟨_, _, _, _, _, h, _⟩
              · exact h
              · cases h
            have HS8 := Lib.hid (HS7.out.below hb8)
            have HB8 := Lib.hid (HB7.out.trans (hb8.mono HB7.out.size))
            clear hb8 hr hans HRD c0 c1 c2 c3
            go_wp2_with fail
            go_meet
            exact ⟨F6, pm6, _, HS8.out.more (by omega), HB8.out⟩
          · have hm0I : ((mt : Int) == 0) = false := by simpa using hm0
            have hm0J : ¬ (mt : Int) = 0 := by omega
            go_wp2_with
              (refine wpList_store_all rfl 35 (.tmp 15) (.tmp 119) rfl w6.heap.size 35 (pcV 0 0 0) (pcV xx xy xz) rfl rfl (Blk.new w6 _ _) rfl (by kernel_rfl) (pcV_one _ _ _) ?_
               intro w7 hb7 hg7 hz7
               have c0 := hb7.cell 0
               have c1 := hb7.cell 1
               have c2 := hb7.cell 2
               have c3 := hb7.cell 3
               simp [pcV] at c0 c1 c2 c3
               have hbw7 : Below w6.heap.size w6 w7 := (below_al' (w := w6) (.cells (pcV 0 0 0).toArray 35)).grown hg7 (by simp) (fun k hk => by injection hk with hk; omega)
               have HS7 := Lib.hid (HS6.out.below hbw7)
               have HB7 := Lib.hid (HB6.out.trans (hbw7.mono HB6.out.size))
               clear hb7 hg7 hz7 hbw7)
            go_meet
            exact ⟨F6, pm6, _, HS7.out.more (by omega), HB7.out⟩
        · have hibI : ¬ (i : Int) < (n1 : Int) := by omega
          have hibd : decide ((i : Int) < (n1 : Int)) = false := decide_eq_false hibI
          clear hib
          go_wp2_with fail
          go_meet
          exact ⟨F, pm2, ob, HSW.out.more (by omega), HBW.out⟩
      case rest =>
        obtain ⟨F2, pm3, ob2, hs2, hbw2⟩ := hcut
        have HS2 := Lib.hid hs2
        have HBW2 := Lib.hid hbw2
        have hNB2 := hbw2.size
        obtain ⟨ad, AB, cb, hA, hcell, hbat, hbc, hbn⟩ := (H0.out.below hbw2) i b HNB.out.1
        subst hA
        have HCAP := Lib.hid (⟨hbc, hbn⟩ : _ ∧ _)
        have HAP := Lib.hid (hs2.onV (by omega) [97] (by decide) AB b.length cb b hbat rfl hbc (by have := HNB.out.2; omega) hbn)
        obtain ⟨xx, xy, xz, hx, hy0, hy1, hx0⟩ := xA_pc 0 90 oa none [97] b
        have hml := mayT_le 90 oa none [97] b
        rw [hx] at HAP
        obtain ⟨mt, hmt⟩ : ∃ mt, mayT 90 oa none [97] b = mt := ⟨_, rfl⟩
        rw [hmt] at HAP hml hx0
        have HX0 := Lib.hid hx0
        have HOA : Hid (osA 90 oa none [97] b = if mt = 0 then oa ++ [((layB oa).length, [97], b)] else oa) := Lib.hid (by unfold osA; rw [hmt])
        obtain ⟨oa2, hoa2⟩ : ∃ oa2, osA 90 oa none [97] b = oa2 := ⟨_, rfl⟩
        rw [hoa2] at HAP HOA
        clear hs2 hbw2 hbat hx hx0 hmt hoa2 hbc hbn
        go_wp2_with fail
        refine HAP.out.mono ?_
        rintro e w6 ⟨hb6, rfl, F6, pm6, hlt6, hsz6, hkp6, hzz⟩
        have HB6 := Lib.hid (HBW2.out.trans hb6)
        have HZZ := Lib.hid hzz
        have HLT6 := Lib.hid (fun h => by have := hlt6 _ h; omega : ¬ F6 w6.heap.size)
        have HGT6 := Lib.hid (fun h => by have := (HS2.out.q.st.lt _ h).2; omega : ¬ G w6.heap.size)
        clear hb6 hlt6 hkp6 hzz hcell HAP
        go_wp2_with
          (refine wpList_store_all rfl 35 (.tmp 20) (.tmp 139) rfl w6.heap.size 35 (pcV 0 0 0) (pcV xx xy xz) rfl rfl (Blk.new w6 _ _) rfl (by kernel_rfl) (pcV_one _ _ _) ?_
           intro w7 hb7 hg7 hz7
           have hbw7 : Below w6.heap.size w6 w7 := (below_al' (w := w6) (.cells (pcV 0 0 0).toArray 35)).grown hg7 (by simp) (fun k hk => by injection hk with hk; omega)
           have HK7 := Lib.hid (⟨hb7, hbw7⟩ : _ ∧ _)
           have HB7 := Lib.hid (HB6.out.trans (hbw7.mono HB6.out.size))
           obtain ⟨ad7, AB7, cb7, hA7, hcell7, hbat7, hbc7, hbn7⟩ := (H0.out.below HB7.out) i b HNB.out.1
           injection hA7 with hA7
           subst hA7
           have HAP := Lib.hid (HZZ.out w7 hbw7 AB7 b.length cb7 hbat7 rfl hbc7 hbn7)
           clear hb7 hg7 hz7 hbw7 hbat7 hbc7 hbn7)
        refine HAP.out.mono ?_
        rintro e w8 ⟨G8, qm8, hs8, hb8, hkp8, rfl⟩
        have HB8 := Lib.hid (HBW2.out.trans hb8)
        have hk8 := hkp8 w6.heap.size 35 _ ⟨HK7.out.1, HGT6.out⟩ HLT6.out
        have HK8 := Lib.hid hk8
        have HS8 := Lib.hid hs8
        clear hs8 hb8 hkp8 hk8 HAP hcell7 HZZ HS2 HK7
        go_wp2_with
          (refine wpList_store_all rfl 35 (.tmp 22) (.tmp 148) rfl w8.heap.size 35 (pcV 0 0 0) (pcV xx xy xz) rfl rfl (Blk.new w8 _ _) rfl (by kernel_rfl) (pcV_one _ _ _) ?_
           intro w9 hb9 hg9 hz9
           have hbw9 : Below w8.heap.size w8 w9 := (below_al' (w := w8) (.cells (pcV 0 0 0).toArray 35)).grown hg9 (by simp) (fun k hk => by injection hk with hk; omega)
           have HB9 := Lib.hid (HB8.out.trans (hbw9.mono HS8.out.p.bs))
           have HS9 := Lib.hid (HS8.out.below hbw9)
           have hk9 := HK8.out.1.1.below_ hbw9
           have HK9 := Lib.hid hk9
           have c0 := hk9.cell 0
           have c1 := hk9.cell 1
           have c2 := hk9.cell 2
           have c3 := hk9.cell 3
           have d0 := hb9.cell 0
           have d1 := hb9.cell 1
           have d2 := hb9.cell 2
           have d3 := hb9.cell 3
           simp [pcV] at c0 c1 c2 c3 d0 d1 d2 d3
           clear hb9 hg9 hz9 hbw9 hk9)
        have HRO := Lib.hid (HS9.out.p.room HS9.out.ta HS9.out.vv (by omega))
        refine HRO.out.mono ?_
        rintro e w10 ⟨rfl, hb10⟩
        have HS10 := Lib.hid (HS9.out.below hb10)
        have HB10 := Lib.hid (HB9.out.trans (hb10.mono HS9.out.p.bs))
        have HK10 := Lib.hid (HK9.out.below_ hb10)
        have HRO2 := Lib.hid (HS10.out.q.room HS10.out.tz HS10.out.vz (by omega))
        clear hb10 HS8 HB8 HK8 HRO HS9 HB9 HK9 c0 c1 c2 c3 d0 d1 d2 d3
        go_wp2_with fail
        refine HRO2.out.mono ?_
        rintro e w11 ⟨rfl, hb11⟩
        have HS11 := Lib.hid (HS10.out.below hb11)
        have HB11 := Lib.hid (HB10.out.trans (hb11.mono HS10.out.p.bs))
        have hk11 := HK10.out.below_ hb11
        have c0 := hk11.cell 0
        have c1 := hk11.cell 1
        have c2 := hk11.cell 2
        have c3 := hk11.cell 3
        simp [pcV] at c0 c1 c2 c3
        have HRD := Lib.hid (HS11.out.p.read HS11.out.ta HS11.out.vv (by omega) xx xy xz false (by omega))
        clear hb11 hk11 HRO2 HS10 HB10 HK10
        go_wp2_with fail
        refine HRD.out.mono ?_
        rintro e w12 ⟨o, hans, hb12, hr⟩
        have HS12 := Lib.hid (HS11.out.below hb12)
        have HB12 := Lib.hid (HB11.out.trans (hb12.mono HS11.out.p.bs))
        have hi1 : IntKind.i64.wrap ((i : Int) + 1) = (i : Int) + 1 := IntWalk.i64_in _ (by omega)
        by_cases hm0 : mt = 0
        · obtain rfl : o = some ([97], b) := (hans [97] b).2 (by
            obtain ⟨h1, h2, h3⟩ := HX0.out hm0
            exact ⟨h1, h3, (layB oa).length, by rw [HOA.out, if_pos hm0]; exact List.mem_append_right _ (List.mem_cons_self ..), h2⟩)
          rcases hr with ⟨h, _⟩ | ⟨id, A, m, cap, b', ho, rfl, hown⟩
          · cases h
          injection ho with ho
          injection ho with h1 h2
          subst h1 h2
          obtain rfl : b.length = m := hown.len
          subst hm0
          rw [show Rec.S8 [97] = ⟨#[97]⟩ from rfl, show ((0 : Nat) : Int) = 0 from rfl]
          obtain ⟨ad12, AB12, cb12, hA12, hcell12, hbat12, _, _⟩ := (H0.out.below HB12.out) i b HNB.out.1
          injection hA12 with hA12
          subst hA12
          have t1 := run_toString (P := Tryd.prog) Pl.byteTy strTy (w := w12.drew) (bs := b) cap hown.bat rfl
          have t2 := run_toString (P := Tryd.prog) Pl.byteTy strTy (w := w12.drew) (bs := b) cb12 hbat12 rfl
          generalize (⟨b.toArray⟩ : ByteArray) = s7 at t1 t2
          clear hb12 hown hans hbat12 HRD HS11 HB11 c0 c1 c2 c3 HX0 HOA
          go_wp2_with fail
          go_region
          go_wp2_with fail
          go_roundw
          case rel => exact ⟨i + 1, F6, G8, _, _, oa2, ob2, by have := HN.out.1; omega, hlt8, by simp, HB12.out.trans (below_drewN (Below.refl _ _) 1 |>.mono HB12.out.size), (HS12.out.below (below_drewN (Below.refl _ _) 1)).more (by omega)⟩
          case measure => simp [intOf]; omega
        · have hm0I : ((mt : Int) == 0) = false := by simpa using hm0
          have hm0J : ¬ (mt : Int) = 0 := by omega
          obtain ⟨s1, A1', m1, c1', e1, rfl⟩ : ∃ s A m cap, ∃ c : Int, e = .returned (.tuple #[.string s, .slice A m cap, .int .i64 c]) := by
            rcases hr with ⟨_, h⟩ | ⟨_, _, _, _, _, _, h, _⟩
            · exact ⟨_, _, _, _, _, h⟩
            · exact ⟨_, _, _, _, _, h⟩
          clear hb12 hr hans HRD HS11 HB11 c0 c1 c2 c3 HX0 HOA
          go_wp2_with fail
          refine Ord.region_ordM [] [3, 4, 5, 6, 7, 8, 9, 10, 11, 12, 13, 14, 15, 16, 17, 18] [0, 1, 2, 3, 4, 5, 6, 7, 8, 9, 10, 11, 12, 13, 14, 15, 16, 17, 18, 19] (by kernel_rfl) (by kernel_rfl) (by kernel_rfl) (by kernel_rfl) (Ord.ord_run [0, 1, 2] [_, _, _] rfl (by kernel_rfl) ?_)
          go_wp2_with fail
          refine Ord.nx_ord (ord_skips [3, 4, 5, 6, 7, 8, 9, 10, 11, 12, 13, 14, 15, 16, 17, 18] [_, _, _, _, _, _, _, _, _, _, _, _, _, _, _, _] _ rfl (by kernel_rfl) (by kernel_rfl) ?_)
          simp only [List.foldl, Act.put, List.setIfInBounds_toArray]
          refine Ord.ord_all [_] rfl (by kernel_rfl) ?_
          go_wp2_with fail
          refine Ord.nx_end ?_
          go_wp2_with fail
          go_roundw
          case rel => exact ⟨i + 1, F6, G8, _, _, oa2, ob2, by have := HN.out.1; omega, hlt8, by simp, HB12.out.trans (below_drewN (Below.refl _ _) 1 |>.mono HB12.out.size), (HS12.out.below (below_drewN (Below.refl _ _) 1)).more (by omega)⟩
          case measure => simp [intOf]; omega
    · have hex : i = n0 ∨ i = 8 := by have := HN.out.1; omega
      have HI8 := Lib.hid hi8
      have HSE := Lib.hid (HSW.out.p.sealed HSW.out.tb HSW.out.vu (by omega))
      by_cases hlt : i < n0
      · have hltI : (i : Int) < (n0 : Int) := by omega
        have hge : ¬ (i : Int) < 8 := by omega
        clear hex hgo hi hi8
        go_wp2_with fail
        refine HSE.out.mono ?_
        rintro e w6 ⟨F6, pm6, hf6, hu6, hv6, ht6, rfl⟩
        have HB6 := Lib.hid (HBW.out.trans (hf6.low HSW.out.flo HSW.out.p.bs))
        have HRT := Lib.hid (hu6.root (HSW.out.ta.els hf6 (by omega)) (HSW.out.vv.frm hf6) (by have := HI8.out; omega))
        have HS6 := Lib.hid hu6.bs
        have hal := run_allocHash
        have hse : sealE 90 ob none = 0 ∨ sealE 90 ob none = 3 := by
          unfold sealE
          split
          · exact .inr rfl
          · exact .inl rfl
        obtain ⟨se, hse2⟩ : ∃ se, sealE 90 ob none = se := ⟨_, rfl⟩
        rw [hse2] at hse ⊢
        clear hf6 hu6 hv6 ht6 HSE hse2
        go_wp2_with fail
        refine HRT.out.mono ?_
        rintro e w7 ⟨rfl, hb7⟩
        have HB7 := Lib.hid (HB6.out.trans (hb7.mono HS6.out))
        have HS7 := Lib.hid (Nat.le_trans HS6.out hb7.size)
        clear hb7 HRT
        rw [show ((none : Option (List UInt8)).getD z32) = z32 from rfl, show ((none : Option (List UInt8)).isSome) = false from rfl]
        rcases hse with rfl | rfl
        · go_wp2_with
            (refine wpList_store_hash rfl (.tmp 28) (.tmp 197) rfl w7.heap.size _ z32 z32 rfl rfl (Blk.new w7 _ _) rfl rfl ?_
             intro w8 hb8 hg8 hz8
             have HBW8 := Lib.hid ((below_al' (w := w7) (.cells (cellsOf z32) 44)).grown hg8 (by simp) (fun k hk => by injection hk with hk; omega))
             clear hb8 hg8 hz8)
          go_ret
          exact ⟨rfl, HB7.out.trans (HBW8.out.mono HS7.out)⟩
        · go_wp2_with
            (refine wpList_store_hash rfl (.tmp 28) (.tmp 197) rfl w7.heap.size _ z32 z32 rfl rfl (Blk.new w7 _ _) rfl rfl ?_
             intro w8 hb8 hg8 hz8
             have HBW8 := Lib.hid ((below_al' (w := w7) (.cells (cellsOf z32) 44)).grown hg8 (by simp) (fun k hk => by injection hk with hk; omega))
             clear hb8 hg8 hz8)
          go_ret
          exact ⟨rfl, HB7.out.trans (HBW8.out.mono HS7.out)⟩
      · have hltI : ¬ (i : Int) < (n0 : Int) := by omega
        clear hex hgo hi hi8
        go_wp2_with fail
        refine HSE.out.mono ?_
        rintro e w6 ⟨F6, pm6, hf6, hu6, hv6, ht6, rfl⟩
        have HB6 := Lib.hid (HBW.out.trans (hf6.low HSW.out.flo HSW.out.p.bs))
        have HRT := Lib.hid (hu6.root (HSW.out.ta.els hf6 (by omega)) (HSW.out.vv.frm hf6) (by have := HI8.out; omega))
        have HS6 := Lib.hid hu6.bs
        have hal := run_allocHash
        have hse : sealE 90 ob none = 0 ∨ sealE 90 ob none = 3 := by
          unfold sealE
          split
          · exact .inr rfl
          · exact .inl rfl
        obtain ⟨se, hse2⟩ : ∃ se, sealE 90 ob none = se := ⟨_, rfl⟩
        rw [hse2] at hse ⊢
        clear hf6 hu6 hv6 ht6 HSE hse2
        go_wp2_with fail
        refine HRT.out.mono ?_
        rintro e w7 ⟨rfl, hb7⟩
        have HB7 := Lib.hid (HB6.out.trans (hb7.mono HS6.out))
        have HS7 := Lib.hid (Nat.le_trans HS6.out hb7.size)
        clear hb7 HRT
        rw [show ((none : Option (List UInt8)).getD z32) = z32 from rfl, show ((none : Option (List UInt8)).isSome) = false from rfl]
        rcases hse with rfl | rfl
        · go_wp2_with
            (refine wpList_store_hash rfl (.tmp 28) (.tmp 197) rfl w7.heap.size _ z32 z32 rfl rfl (Blk.new w7 _ _) rfl rfl ?_
             intro w8 hb8 hg8 hz8
             have HBW8 := Lib.hid ((below_al' (w := w7) (.cells (cellsOf z32) 44)).grown hg8 (by simp) (fun k hk => by injection hk with hk; omega))
             clear hb8 hg8 hz8)
          go_ret
          exact ⟨rfl, HB7.out.trans (HBW8.out.mono HS7.out)⟩
        · go_wp2_with
            (refine wpList_store_hash rfl (.tmp 28) (.tmp 197) rfl w7.heap.size _ z32 z32 rfl rfl (Blk.new w7 _ _) rfl rfl ?_
             intro w8 hb8 hg8 hz8
             have HBW8 := Lib.hid ((below_al' (w := w7) (.cells (cellsOf z32) 44)).grown hg8 (by simp) (fun k hk => by injection hk with hk; omega))
             clear hb8 hg8 hz8)
          go_ret
          exact ⟨rfl, HB7.out.trans (HBW8.out.mono HS7.out)⟩
end Go.Proofs.YtloffgoenaomkaaDoor.Col
