/- The reference's 'Open'. -/
import Derived.Test.YtgcckfaljfkkhaaDoorHotRDrop
namespace Go.Proofs.YtgcckfaljfkkhaaDoor.Hot
open Go Go.RowKit Mem Pl
theorem occ_meet {used : List Pc} {nseg : Nat} {q : Pc} (hok : ∀ u ∈ used, okP nseg u) (hq : 1 ≤ q.2) : (∀ k, q.1 ≤ k → k < q.1 + q.2 → ¬ Occ used k) ↔ ∀ u ∈ used, meetM u q = false := by
  constructor
  · intro h5 u hu
    have h8 := (hok u hu).1
    refine decide_eq_false ?_
    rintro ⟨h6, h7⟩
    rcases Nat.le_total u.1 q.1 with h | h
    · exact h5 q.1 (Nat.le_refl _) (by omega) ⟨u, hu, h, h7⟩
    · exact h5 u.1 h h6 ⟨u, hu, Nat.le_refl _, by omega⟩
  · rintro h5 k hk1 hk2 ⟨u, hu, hu1, hu2⟩
    have := of_decide_eq_false (h5 u hu)
    exact this ⟨by omega, by omega⟩
/-- What the reference's 'Open' answers. -/
def RetRO (w : World) (disks : List Nat) (dev : Int) (ps : List Plc) (e : Ending) (w' : World) : Prop :=
  Below w.heap.size w w' ∧
  ((¬ (0 ≤ dev ∧ dev < disks.length) ∧ e = .returned (.tuple #[.pointer none, .int .i64 1])) ∨
   ∃ (d n : Nat), dev = (d : Int) ∧ disks[d]? = some n ∧
    ((openM d (n / 16) ps = none ∧ e = .returned (.tuple #[.pointer none, .int .i64 31])) ∨
     ∃ used h, openM d (n / 16) ps = some used ∧ e = .returned (.tuple #[.pointer (some ⟨h, 0, none⟩), .int .i64 0]) ∧ RHotAt w' (New w w') h d n used (List.replicate used.length []) ∧ ∀ u ∈ used, okP (n / 16) u))
def OpenRR (w : World) (d n hb : Nat) (ps : List Plc) (g : Nat) (iv : Value) (wr : World) : Prop :=
  ∃ (i : Nat) (used : List Pc), i + g = ps.length ∧ iv = .int .i64 (i : Int) ∧ openM d (n / 16) (ps.take i) = some used ∧ RHotAt wr (New w wr) hb d n used (List.replicate used.length []) ∧ (∀ u ∈ used, okP (n / 16) u) ∧ used.length = i ∧ Below w.heap.size w wr
def MeetRR (w6 : World) (used : List Pc) (p : Pc) (jv : Value) (wr : World) : Prop :=
  ∃ j : Nat, j ≤ used.length ∧ jv = .int .i64 (j : Int) ∧ (∀ i u, i < j → used[i]? = some u → meetM u p = false) ∧ Below w6.heap.size w6 wr
set_option maxRecDepth 100000 in
set_option maxHeartbeats 8000000 in
theorem ropen_any {w : World} (disks : List Nat) (AD : Option Addr) (nd cd : Nat) (hdk : IAt w AD (disks.map fun n : Nat => (n : Int))) (hnd : disks.length = nd) (hd4 : ∀ n ∈ disks, n ≤ 4096) (dev : Int) (A : Option Addr) (L cap : Nat) (ps : List Plc) (hps : PlsAt w A ps) (hl : ps.length = L) (hL : L ≤ 100000000) :
    Calls Tryd.prog 13 #[.slice AD nd cd, .int .i64 dev, .slice A L cap] w (RetRO w disks dev ps) := by
  have HDK := Lib.hid hdk
  have HND := Lib.hid hnd
  have HD4 := Lib.hid hd4
  have HPS := Lib.hid hps
  have HL := Lib.hid hl
  clear hdk hps hl hd4 hnd
  by_cases hlo : dev < 0
  · go_enter Tryd.func13, Tryd.ntmps13
    go_wp2_with fail
    go_ret2
    exact ⟨Below.refl _ _, .inl ⟨by omega, rfl⟩⟩
  · by_cases hhi : dev < nd
    · obtain ⟨d, rfl⟩ := Int.eq_ofNat_of_zero_le (show 0 ≤ dev by omega)
      have hdl : d < disks.length := by have := HND.out; omega
      obtain ⟨n, hn⟩ : ∃ n, disks[d]? = some n := ⟨_, List.getElem?_eq_getElem hdl⟩
      have hn4 : n ≤ 4096 := HD4.out n (List.mem_of_getElem? hn)
      have HN := Lib.hid hn
      obtain ⟨adD, hA, hcd⟩ : ∃ ad : Addr, AD = some ad ∧ w.cell? (ad.add d) = some (.int .i64 (n : Int)) := by
        rcases HDK.out with h | ⟨ad, hA, hc⟩
        · have : (disks.map fun n : Nat => (n : Int)).length = 0 := by rw [h]; rfl
          simp at this
          rw [this] at hdl
          simp at hdl
        · exact ⟨ad, hA, hc d _ (by rw [List.getElem?_map, hn]; rfl)⟩
      subst hA
      have hge : ¬ (nd : Int) ≤ (d : Int) := by omega
      have hge1 : decide ((nd : Int) ≤ (d : Int)) = false := decide_eq_false hge
      have hge2 : decide (nd ≤ d) = false := decide_eq_false (by omega)
      have hge3 : decide ((d : Int) < 0) = false := decide_eq_false (by omega)
      clear hn hdl
      go_enter Tryd.func13, Tryd.ntmps13
      go_wp2_with fail
      have hm3 : Below w.heap.size w (w.alloc (.cells #[.int .i64 (d : Int), .int .i64 (n : Int), .slice none 0 0, .slice none 0 0] 62)) := below_al' _
      have hk3 := Blk.new w 62 #[.int .i64 (d : Int), .int .i64 (n : Int), .slice none 0 0, .slice none 0 0]
      have hs3 : (w.alloc (.cells #[.int .i64 (d : Int), .int .i64 (n : Int), .slice none 0 0, .slice none 0 0] 62)).heap.size = w.heap.size + 1 := by simp
      generalize w.alloc (.cells #[.int .i64 (d : Int), .int .i64 (n : Int), .slice none 0 0, .slice none 0 0] 62) = w3 at *
      have HW3 := Lib.hid hm3
      have HX3 : Hid (RHotAt w3 (New w w3) w.heap.size d n [] (List.replicate ([] : List Pc).length [])) := Lib.hid ⟨_, _, [], ⟨⟨hk3, ⟨by omega, by omega⟩, Vec.nil_ _ _ _ _ none, Vec.nil_ _ _ _ _ none, fun k b hb => by simp at hb⟩, rfl⟩⟩
      have HLP := HL.out
      clear hk3 hm3 hs3 hcd
      go_loopg [9] L (fun g iv wr => OpenRR w d n w.heap.size ps g iv wr)
      case atStart => exact ⟨0, [], by omega, rfl, rfl, HX3.out, (fun u hu => absurd hu (by simp)), rfl, HW3.out⟩
      case round =>
        obtain ⟨i, used, hi, rfl, hop, hx, hko, hul, hbw⟩ := hrel
        have HOP := Lib.hid hop
        have HXR := Lib.hid hx
        have HKO := Lib.hid hko
        have HBW := Lib.hid hbw
        have HUL := Lib.hid hul
        have HGI := Lib.hid hi
        clear hop hx hko hbw hul hi
        by_cases hlt : i < L
        · have hiI : (i : Int) < (L : Int) := by omega
          have hul9 : used.length ≤ 1000000000 := by have := HUL.out; omega
          obtain ⟨p, hp⟩ : ∃ p, ps[i]? = some p := ⟨_, List.getElem?_eq_getElem (by omega)⟩
          obtain ⟨ad, hA, hin, hpl⟩ := HPS.out i p hp
          subst hA
          obtain ⟨q0, q1, q2, q3⟩ := hpl.below HBW.out
          have HP := Lib.hid hp
          clear hp hpl
          have ha4 : Below wr.heap.size wr (wr.alloc (.cells #[.int .i64 p.dev, .int .i64 p.at_, .int .i64 p.len, .bool false] 36)) := below_al' _
          have hk4 := Blk.new wr 36 #[.int .i64 p.dev, .int .i64 p.at_, .int .i64 p.len, .bool false]
          have HX4 := Lib.hid (HXR.out.below ha4)
          have HK4 := Lib.hid hk4
          have HA4 := Lib.hid ha4
          clear ha4 hk4
          go_wp2_with fail
          have hsr : w.heap.size < wr.heap.size := by obtain ⟨_, _, _, y⟩ := HXR.out; exact y.blk.lt
          have HSR := Lib.hid hsr
          have hbx := HK4.out.lt
          have HBX := Lib.hid hbx
          clear q0 q1 q2 q3 hsr hbx
          generalize wr.alloc (.cells #[.int .i64 p.dev, .int .i64 p.at_, .int .i64 p.len, .bool false] 36) = w4 at *
          obtain ⟨U4, V4, vs4, hx4⟩ := HX4.out
          have HXB := Lib.hid hx4
          have HPA := Lib.hid (rplace_any hx4 hn4 p.dev p.at_ p.len (.bool false) hin.1 hin.2)
          clear hx4
          refine HPA.out.mono ?_
          rintro e w5 ⟨rfl, hb5⟩
          have HX5 := Lib.hid (HXB.out.below hb5)
          have HK5 := Lib.hid (HK4.out.below_ hb5)
          have HB45 := Lib.hid (HA4.out.trans (hb5.mono HA4.out.size))
          have HW5 := Lib.hid (HBW.out.trans (HB45.out.mono HBW.out.size))
          clear hb5 HXB HPA HK4 HX4 HBX
          cases hpm : placeM d (n / 16) p.dev p.at_ p.len with
          | false =>
            have HNO : Hid (openM d (n / 16) ps = none) := Lib.hid (openM_none (k := i + 1) (by rw [openM_take HP.out, HOP.out]; unfold openStep; simp [hpm]))
            clear hpm
            go_wp2_with fail
            go_ret2
            exact ⟨HW5.out, .inr ⟨d, n, rfl, HN.out, .inl ⟨HNO.out, rfl⟩⟩⟩
          | true =>
            have hpd : p.dev = (d : Int) ∧ 1 ≤ p.len ∧ p.len ≤ 16 ∧ 0 ≤ p.at_ ∧ p.at_ / 16 < ((n / 16 : Nat) : Int) ∧ p.at_ % 16 + p.len ≤ 16 := of_decide_eq_true hpm
            obtain ⟨e0, e1, e2, e3, e4, e5⟩ := hpd
            have HPM := Lib.hid hpm
            have hok1 : okP (n / 16) p.pc := by
              unfold okP Plc.pc
              simp only
              omega
            have hpa : p.at_ = ((p.pc.1 : Nat) : Int) := by unfold Plc.pc; simp only; omega
            have hpl2 : p.len = ((p.pc.2 : Nat) : Int) := by unfold Plc.pc; simp only; omega
            have hq1 : p.pc.1 < 1000000000 := by have := hok1.2.2.1; omega
            have hq2 : p.pc.2 ≤ 16 := hok1.2.1
            have HOK1 := Lib.hid hok1
            have HPA := Lib.hid hpa
            have HPL := Lib.hid hpl2
            have HPD := Lib.hid e0
            have HYN : Hid (openM d (n / 16) (ps.take (i + 1)) = if (∀ u ∈ used, meetM u p.pc = false) then some (used ++ [p.pc]) else none) := Lib.hid (by
              rw [openM_take HP.out, HOP.out]
              unfold openStep
              simp only
              by_cases hall : ∀ u ∈ used, meetM u p.pc = false
              · rw [if_pos hall, if_pos ⟨HPM.out, (occ_meet HKO.out hok1.1).2 hall⟩]
              · rw [if_neg hall, if_neg fun h => hall ((occ_meet HKO.out hok1.1).1 h.2)])
            clear hpm hok1 e0 e1 e2 e3 e4 e5 hpa hpl2
            go_wp2_with fail
            go_loopw [11] (fun jv wx => MeetRR w5 used p.pc jv wx) (fun jv _ => used.length - (intOf jv).toNat)
            case atStart => exact ⟨0, by omega, by simp, fun i u h => by omega, Below.refl _ _⟩
            case round =>
              obtain ⟨j, hj, rfl, hpre, hbj⟩ := hrel
              have HPRE := Lib.hid hpre
              have HBJ := Lib.hid hbj
              have x' := HX5.out.below hbj
              have hkj := HK5.out.below_ hbj
              have HXJ := Lib.hid x'
              have HKJ := Lib.hid hkj
              have c2 := x'.c2
              have hlr := x'.blk.lt
              have hlk := hkj.lt
              have k0 := (hkj.cell 0).trans (show _ = some (.int .i64 p.dev) from rfl)
              have k1 := (hkj.cell 1).trans (show _ = some (.int .i64 p.at_) from rfl)
              have k2 := (hkj.cell 2).trans (show _ = some (.int .i64 p.len) from rfl)
              have k3 := (hkj.cell 3).trans (show _ = some (.bool false) from rfl)
              obtain ⟨AU, cU, hUe⟩ := x'.uv.shape
              clear hpre hbj hkj x'
              by_cases hlt' : j < used.length
              · have hjI : (j : Int) < (used.length : Int) := by omega
                obtain ⟨u, hu⟩ : ∃ u, used[j]? = some u := ⟨_, List.getElem?_eq_getElem hlt'⟩
                obtain ⟨g, c, hU, e0, e1, e2, e3⟩ := used_cells HXJ.out.uv hu
                have huk := HKO.out u (List.mem_of_getElem? hu)
                have hu1 : u.1 < 1000000000 := by have := huk.2.2.1; omega
                have hu2 : u.2 ≤ 16 := huk.2.1
                rw [hU] at c2
                have HU := Lib.hid hu
                have HME := Lib.hid (fun W => meet_any W u p.pc (.int .i64 (d : Int)) (.int .i64 p.dev) (.bool false) (.bool false) hu1 hu2 hq1 hq2)
                rw [← HPA.out, ← HPL.out] at HME
                clear hU hUe hu huk
                go_wp2_with fail
                refine Ord.region_ord [8] [0, 1, 2, 3, 4, 5, 6, 7, 8] (by kernel_rfl) (by kernel_rfl) (by kernel_rfl) (by kernel_rfl) (Ord.ord_run [0, 1, 2, 3, 4, 5, 6, 7] [_, _, _, _, _, _, _, _] rfl (by kernel_rfl) ?_)
                go_wp2_with fail
                refine Ord.nx_ord (Ord.ord_one rfl ?_)
                go_wp2_with fail
                refine (HME.out _).mono ?_
                rintro e w7 ⟨rfl, hb7⟩
                have HB7 := Lib.hid hb7
                have HB57 := Lib.hid (HBJ.out.trans (((below_drewN (Below.refl wr.heap.size wr) 1).trans hb7).mono HBJ.out.size))
                clear hb7
                go_wp2_with fail
                refine Ord.nx_and HB7.out (Ord.ord_all [] rfl (by kernel_rfl) ?_)
                go_wp2_with fail
                refine Ord.nx_end ?_
                cases hme : meetM u p.pc with
                | true =>
                  have HNO : Hid (openM d (n / 16) ps = none) := Lib.hid (openM_none (k := i + 1) (by
                    rw [HYN.out, if_neg fun h => by have := h u (List.mem_of_getElem? HU.out); rw [hme] at this; cases this]))
                  clear hme
                  go_wp2_with fail
                  go_ret2
                  exact ⟨HW5.out.trans (HB57.out.mono HW5.out.size), .inr ⟨d, n, rfl, HN.out, .inl ⟨HNO.out, rfl⟩⟩⟩
                | false =>
                  have HMF := Lib.hid hme
                  clear hme
                  go_wp2_with fail
                  go_roundw
                  case rel => exact ⟨j + 1, by omega, by simp, fun i v hi hv => by
                    rcases Nat.lt_or_ge i j with h | h
                    · exact HPRE.out i v h hv
                    · obtain rfl : i = j := by omega
                      rw [HU.out] at hv
                      injection hv with hv
                      rw [← hv]
                      exact HMF.out, HB57.out⟩
                  case measure => simp [intOf]; omega
              · obtain rfl : j = used.length := by omega
                have hjI : ¬ ((used.length : Nat) : Int) < (used.length : Int) := by omega
                have HYES : Hid (openM d (n / 16) (ps.take (i + 1)) = some (used ++ [p.pc])) := Lib.hid (by
                  rw [HYN.out, if_pos fun u hu => by
                    obtain ⟨j, hj⟩ := List.getElem?_of_mem hu
                    exact HPRE.out j u (List.getElem?_eq_some_iff.1 hj).1 hj])
                have hw5r := HBJ.out.size
                have hwr5 := HB45.out.size
                have hwwr := HSR.out
                rw [hUe] at c2 HXJ
                clear hUe
                rw [HPD.out] at k0
                rw [HPA.out] at k1
                rw [HPL.out] at k2
                have hba : Below wr.heap.size wr (wr.drew.alloc (.cells #[.int .i64 (d : Int), .int .i64 ((p.pc.1 : Nat) : Int), .int .i64 ((p.pc.2 : Nat) : Int), .bool false] 36)) := Below.trans (show Below wr.heap.size wr wr.drew from below_drewN (Below.refl _ _) 1) (show Below wr.heap.size wr.drew _ from below_al' (w := wr.drew) _)
                have HBA := Lib.hid hba
                have HX6 := Lib.hid (HXJ.out.toRHotC.below hba)
                clear hba
                go_wp2_with fail
                refine Ord.region_ord [] [0, 1, 2, 3, 4, 5, 6, 7, 8, 9, 10] (by kernel_rfl) (by kernel_rfl) (by kernel_rfl) (by kernel_rfl) (Ord.ord_all [_, _, _, _, _, _, _, _, _, _, _] rfl (by kernel_rfl) ?_)
                go_wp2_with
                  (refine wpList_buildSlice_row rfl 22 36 (.tmp 65) rfl placeTy (pcCells d p.pc) rfl (show _ = 1 * 4 from rfl) (by omega) wr.heap.size rfl ?_
                   go_wp2_with
                     (refine wpList_append_vec rfl (.tmp 64) (.tmp 66) _ rfl 32 _ placeTy rfl HX6.out.uv ⟨wr.heap.size, 0, none⟩ 1 1 (pcCells d p.pc) rfl (show _ = 1 * 4 from rfl) (blk_news (Blk.new wr.drew _ _)) (pc_one d p.pc) ?c1 ?c2 ?_
                      case c1 => unfold maxLen; omega
                      case c2 => omega
                      intro W7 w7 row7 hv7 hg7 hr7
                      obtain ⟨A7, c7, rfl⟩ := hv7.shape
                      obtain ⟨hh1, hh2, hh3⟩ := HX6.out.pushU hg7 hr7 hv7
                      have h7 := (hh2.cell 2).trans (show _ = some (.slice AU used.length cU) from rfl)
                      have z7 := hh2.frozen 2
                      have HH1 := Lib.hid hh1
                      have HH3 := Lib.hid hh3
                      clear hv7 hg7 hr7 hh1 hh2 hh3 k0 k1 k2 k3 c2))
                refine Ord.nx_end ?_
                have hm8 := ((Mods.of_below (F := New w wr) HBA.out)).trans (HH3.out.mono HBA.out.size fun g hlt hg => ⟨hg.1, hlt⟩)
                have hx8 := HH1.out.mono (G' := New w (w7.setCell ⟨w.heap.size, 2, none⟩ (.slice A7 (used.length + 1) c7))) fun g hlt hg => by
                  rcases hg with hg | ⟨h6, h7⟩
                  · exact ⟨hg.1, hlt⟩
                  · exact ⟨by have := HBA.out.size; omega, hlt⟩
                have HW8 := Lib.hid ((HW5.out.trans (HBJ.out.mono HW5.out.size)).trans ((hm8.mono (show w.heap.size ≤ wr.heap.size by omega) fun g _ h => h).below fun g hg hf => by have := hf.1; omega))
                have HX8 := Lib.hid hx8
                clear hm8 hx8 h7 z7 HH1 HH3 HX6 HBA HXJ hlr hlk HKJ
                generalize w7.setCell ⟨w.heap.size, 2, none⟩ (.slice A7 (used.length + 1) c7) = w8 at *
                have e3 := HX8.out.c3
                have hlr8 := HX8.out.blk.lt
                obtain ⟨AV, cV, rfl⟩ := HX8.out.rows.shape
                have hrl : (List.replicate used.length ([] : List UInt8)).length = used.length := by simp
                rw [hrl] at e3 HX8
                have hba8 : Below w8.heap.size w8 (w8.alloc (.cells #[.slice none 0 0] 41)) := below_al' _
                have HBA := Lib.hid hba8
                have hx9 := HX8.out.below hba8
                have hrw9 := hx9.rows
                rw [hrl] at hrw9
                have HRW := Lib.hid hrw9
                have HX9 := Lib.hid hx9
                clear hba8 hx9 hrw9
                go_wp2_with
                  (refine wpList_append_vec rfl (.tmp 74) (.tmp 75) _ rfl 24 _ rrowTy rfl HRW.out ⟨w8.heap.size, 0, none⟩ 1 1 [.slice none 0 0] rfl (show _ = 1 * 1 from rfl) (blk_news (Blk.new w8 _ _)) (by intro u hu; simp at hu; subst hu; rfl) ?c1 ?c2 ?_
                   case c1 => unfold maxLen; omega
                   case c2 => omega
                   intro W9 w9 row9 hv9 hg9 hr9
                   obtain ⟨A9, c9, rfl⟩ := hv9.shape
                   obtain ⟨hh1, hh2, hh3⟩ := HX9.out.pushV (b0 := []) (v0 := .slice none 0 0) (Vec.nil_ _ _ _ _ none) hg9 hr9 (by rw [hrl]; exact hv9)
                   have h5 := (hh2.cell 3).trans (show _ = some (.slice AV used.length cV) from rfl)
                   have z5 := hh2.frozen 3
                   have HH1 := Lib.hid hh1
                   have HH3 := Lib.hid hh3
                   clear hv9 hg9 hr9 hh1 hh2 hh3)
                have hm9 := ((Mods.of_below (F := New w w8) HBA.out)).trans (HH3.out.mono HBA.out.size fun g hlt hg => hg)
                have hx9 := HH1.out.mono (G' := New w (w9.setCell ⟨w.heap.size, 3, none⟩ (.slice A9 (used.length + 1) c9))) fun g hlt hg => by
                  rcases hg with hg | ⟨h6, h7⟩
                  · exact ⟨hg.1, hlt⟩
                  · exact ⟨by have := HBA.out.size; omega, hlt⟩
                have hw9 := HW8.out.trans ((hm9.mono (show w.heap.size ≤ w8.heap.size by omega) fun g _ h => h).below fun g hg hf => by have := hf.1; omega)
                have hrep : List.replicate used.length ([] : List UInt8) ++ [[]] = List.replicate (used ++ [p.pc]).length [] := by rw [List.length_append, List.length_singleton, List.replicate_succ']
                rw [hrep] at hx9
                go_roundg (gk - 1)
                case measure => have := HGI.out; omega
                case rel => exact ⟨i + 1, used ++ [p.pc], by have := HGI.out; omega, by simp, HYES.out, ⟨_, _, _, hx9, by simp⟩, fun u hu => by
                  rcases List.mem_append.1 hu with hu | hu
                  · exact HKO.out u hu
                  · rw [List.mem_singleton] at hu; subst hu; exact HOK1.out, by rw [List.length_append, HUL.out]; rfl, hw9⟩
        · obtain rfl : i = L := by have := HGI.out; omega
          have hiI : ¬ (i : Int) < (i : Int) := by omega
          go_wp2_with fail
          go_ret2
          have := HOP.out
          rw [List.take_of_length_le (by omega)] at this
          exact ⟨HBW.out, .inr ⟨d, n, rfl, HN.out, .inr ⟨used, _, this, rfl, HXR.out, HKO.out⟩⟩⟩
    · have hge : (nd : Int) ≤ dev := by omega
      have hge1 : decide ((nd : Int) ≤ dev) = true := decide_eq_true hge
      go_enter Tryd.func13, Tryd.ntmps13
      go_wp2_with fail
      go_ret2
      exact ⟨Below.refl _ _, .inl ⟨by have := HND.out; omega, rfl⟩⟩
end Go.Proofs.YtgcckfaljfkkhaaDoor.Hot
