/- The reference's Append. -/
import Derived.Test.YtomncfiklkhfjaaRefWrite
namespace Go.Proofs.Ytomncfiklkhfjaa.Ref
open Go Go.RowKit Mem Pl
variable {S : Nat → Prop}
set_option maxRecDepth 100000 in
set_option maxHeartbeats 4000000 in
theorem append_any {w : World} {F : Nat → Prop} {r : Nat} {p : PM} {left : Int} {D T V W : Value} (h : RefB S w F r p left D T V W) (hok : p.Ok) (hlow : p.Low) (i : Int) (A : Option Addr) (m cap : Nat) (b : List UInt8) (hb : BAt w A b) (hl : b.length = m) (hS : ∀ g, w.heap.size ≤ g → S g) :
    Calls Try.prog 45 #[.pointer (some ⟨r, 0, none⟩), .int .i64 i, .slice A m cap] w fun e w' => e = .returned (.tuple #[.int .i64 (p.append i b).2.1, .int .i64 (p.append i b).2.2]) ∧ RGone S F w r (p.append i b).1 w' := by
  have HB := Lib.hid h
  have HBT := Lib.hid hb
  have HL := Lib.hid hl
  have HSS := Lib.hid hS
  clear hS
  have h4 := h.c4
  have HDK := Lib.hid (fun q : Nat => disks_any (HB.out.below (below_drewN (Below.refl _ w) q)))
  have HLN := Lib.hid (len_any h hok hlow.waits i)
  have HHS := Lib.hid (fun q : Nat => has_any (HB.out.below (below_drewN (Below.refl _ w) q)) hok i)
  have HSM := Lib.hid (fun q : Nat => (⟨(HB.out.below (below_drewN (Below.refl _ w) q)).same.1, (Mods.refl w.heap.size F w).drewN q, ⟨fun _ _ hh => hh, fun _ _ hh => hh⟩⟩ : RGone S F w r p (w.drewN q)))
  have hn12 := hok.n12
  clear hb hl
  cases hoff : p.off with
  | true =>
    have e : p.append i b = (p, 0, 2) := by unfold PM.append; rw [hoff]; rfl
    rw [e]
    rw [hoff] at h4
    clear h hoff e
    go_enter Try.func45, Try.ntmps45
    go_wp2_with fail
    refine HLN.out.mono ?_
    rintro e _ ⟨rfl, q, rfl⟩
    go_wp2_with fail
    go_ret2
    exact ⟨rfl, HSM.out q⟩
  | false =>
    rw [hoff] at h4
    have HOF := Lib.hid hoff
    have hdl : p.disks.length ≤ 12 := by have := hok.shape; have := hok.n12; omega
    have hdd : p.disks.length ≤ p.devs.length := by have := hok.shape; omega
    clear hoff h
    by_cases hid : i < (p.disks.length : Int)
    · have e : p.append i b = (p, 0, 31) := by
        unfold PM.append
        rw [HOF.out]
        rcases num_cases p i with ⟨hn, _⟩ | ⟨j, d, rfl, hn, hj, hd⟩
        · rw [hn]; rfl
        · rw [hn]
          simp only [hd]
          rw [if_neg (by simp), if_pos (by rw [hok.tape j d hd]; exact decide_eq_false (by omega))]
      rw [e]
      have hib : decide (i < (p.disks.length : Int)) = true := decide_eq_true hid
      clear e
      go_enter Try.func45, Try.ntmps45
      go_wp2_with fail
      refine HLN.out.mono ?_
      rintro e _ ⟨rfl, q, rfl⟩
      go_wp2_with fail
      refine (HDK.out q).mono ?_
      rintro e _ ⟨rfl, rfl⟩
      go_wp2_with fail
      go_ret2
      exact ⟨rfl, HSM.out q⟩
    · have hib : decide (i < (p.disks.length : Int)) = false := decide_eq_false hid
      rcases num_cases p i with ⟨hn, hi⟩ | ⟨j, d, rfl, hn, hj, hd⟩
      · have e : p.append i b = (p, 0, 31) := by
          unfold PM.append
          rw [HOF.out, hn]
          rfl
        rw [e]
        rw [hn] at HHS
        clear e hn
        go_enter Try.func45, Try.ntmps45
        go_wp2_with fail
        refine HLN.out.mono ?_
        rintro e _ ⟨rfl, q, rfl⟩
        go_wp2_with fail
        refine (HDK.out q).mono ?_
        rintro e _ ⟨rfl, rfl⟩
        go_wp2_with fail
        refine (HHS.out q).mono ?_
        rintro e _ ⟨rfl, q1, rfl⟩
        rw [World.drewN_drewN]
        go_wp2_with fail
        go_ret2
        exact ⟨rfl, HSM.out _⟩
      · have ht : d.tape = true := by rw [hok.tape j d hd]; exact decide_eq_true (by omega)
        have HAP : Hid (p.append (j : Int) b = if b.length ≠ 64 then (p, 0, 32) else if d.size p.waits j = d.most then (p, 0, 3) else
            if (p.give j (d.size p.waits j) b).2 = 0 then ((p.give j (d.size p.waits j) b).1, ((d.size p.waits j : Nat) : Int), 0) else ((p.give j (d.size p.waits j) b).1, 0, 2)) := Lib.hid (by
          unfold PM.append
          rw [HOF.out, hn]
          simp only [hd, ht]
          rw [if_neg (by simp), if_neg (by simp)])
        have e2 : p.len j = (((d.size p.waits j : Nat) : Int), (0 : Int)) := by unfold PM.len; rw [hn]; simp only [hd]
        rw [e2] at HLN
        rw [hn] at HHS
        have HSZ := Lib.hid (Dev.size_le hok hd)
        have hmost := (hok.most j d hd).2.2
        have HMS := Lib.hid (fun q : Nat => most_ref (HB.out.below (below_drewN (Below.refl _ w) q)) hok hd)
        obtain ⟨n, hnn⟩ : ∃ n, d.size p.waits j = n := ⟨_, rfl⟩
        rw [hnn] at HLN HAP HSZ
        clear e2 ht hn hd hnn
        by_cases hm : m = 64
        · subst hm
          by_cases hnm : n = d.most
          · have e : p.append (j : Int) b = (p, 0, 3) := by rw [HAP.out, if_neg (by rw [HL.out]; omega), if_pos hnm]
            rw [e]
            have hnb : ((n : Int) == (d.most : Int)) = true := by rw [beq_iff_eq]; omega
            clear e hnm
            go_enter Try.func45, Try.ntmps45
            go_wp2_with fail
            refine HLN.out.mono ?_
            rintro e _ ⟨rfl, q, rfl⟩
            go_wp2_with fail
            refine (HDK.out q).mono ?_
            rintro e _ ⟨rfl, rfl⟩
            go_wp2_with fail
            refine (HHS.out q).mono ?_
            rintro e _ ⟨rfl, q1, rfl⟩
            rw [World.drewN_drewN]
            go_wp2_with fail
            refine (HMS.out (q + q1)).mono ?_
            rintro e _ ⟨rfl, q2, rfl⟩
            rw [World.drewN_drewN]
            go_wp2_with fail
            go_ret2
            exact ⟨rfl, HSM.out _⟩
          · have hnb : ((n : Int) == (d.most : Int)) = false := by rw [beq_eq_false_iff_ne]; omega
            have HAP2 : Hid (p.append (j : Int) b = if (p.give j n b).2 = 0 then ((p.give j n b).1, (n : Int), 0) else ((p.give j n b).1, 0, 2)) := Lib.hid (by rw [HAP.out, if_neg (by rw [HL.out]; omega), if_neg hnm])
            have hsl := hlow.steps
            have HST := Lib.hid (fun q : Nat => step_any (HB.out.below (below_drewN (Below.refl _ w) q)) hsl)
            clear hnm
            go_enter Try.func45, Try.ntmps45
            go_wp2_with fail
            refine HLN.out.mono ?_
            rintro e _ ⟨rfl, q, rfl⟩
            go_wp2_with fail
            refine (HDK.out q).mono ?_
            rintro e _ ⟨rfl, rfl⟩
            go_wp2_with fail
            refine (HHS.out q).mono ?_
            rintro e _ ⟨rfl, q1, rfl⟩
            rw [World.drewN_drewN]
            go_wp2_with fail
            refine (HMS.out (q + q1)).mono ?_
            rintro e _ ⟨rfl, q2, rfl⟩
            rw [World.drewN_drewN]
            go_wp2_with fail
            refine (HST.out (q + q1 + q2)).mono ?_
            rintro e w1 ⟨rfl, ⟨left1, hr1⟩, hm1, hk1, hs1⟩
            have HR1 := Lib.hid hr1
            have HM1 : Hid (RMods F w w1) := Lib.hid ⟨((Mods.refl w.heap.size F w).drewN (q + q1 + q2)).trans hm1.mods, ⟨hm1.bytes.b, hm1.bytes.i⟩⟩
            cases hst : p.step.2 with
            | false =>
              have HE : Hid (p.append (j : Int) b = (p.step.1, 0, 2)) := Lib.hid (by rw [HAP2.out, PM.give_no hst, if_neg (by simp)])
              clear hst hr1 hm1 hk1 hs1
              go_wp2_with fail
              go_ret2
              rw [HE.out]
              exact ⟨rfl, ⟨_, _, _, _, _, HR1.out⟩, HM1.out⟩
            | true =>
              have HE : Hid (p.append (j : Int) b = ({ p.step.1 with waits := p.step.1.waits ++ [⟨j, n, b⟩] }, (n : Int), 0)) := Lib.hid (by rw [HAP2.out, PM.give_yes hst, if_pos rfl])
              have hsame := PM.step_same p
              have hwl : p.step.1.waits.length ≤ 1000000000 := by rw [hsame.2.2.2.1]; exact hlow.waits
              have HA1 := Lib.hid (HB.out.bytes_ne HBT.out hk1)
              have hk3 := HR1.out.c3
              have hf3 := HR1.out.fz 3
              obtain ⟨AW, cW, rfl⟩ := HR1.out.waits.shape
              obtain ⟨rows, hv, hrl, hrw⟩ := HR1.out.waits
              have HVW := Lib.hid hv
              have HRL := Lib.hid hrl
              have HRW := Lib.hid hrw
              clear hst hr1 hm1 hk1 hs1 hsame hv hrl hrw
              go_wp2_with fail
              refine Ord.region_ord [9] [0, 1, 2, 3, 4, 5, 6, 8, 7, 9, 10, 11, 12, 13, 14, 15] (by kernel_rfl) (by kernel_rfl) (by kernel_rfl) (by kernel_rfl) (Ord.ord_run [0, 1, 2, 3, 4, 5, 6, 8, 7] [_, _, _, _, _, _, _, _, _] rfl (by kernel_rfl) ?_)
              go_wp2_with fail
              refine Ord.nx_ord (Ord.ord_one rfl ?_)
              have hb0 : Below w1.heap.size w1 (w1.drew.alloc (.cells #[] 5)) := (below_drewN (Below.refl _ w1) 1).alloc (Nat.le_refl _) _
              refine wpList_copy_sec rfl (.tmp 53) (.tmp 54) rfl _ rfl A cap b rfl (HA1.out.below hb0) HL.out ?_
              intro g5 c5 cs5 w5 hh5 htk5 hg5 hb5
              have HB5 : Hid (Below w1.heap.size w1 w5) := Lib.hid (hb0.trans (hb5.mono hb0.size))
              have HSC : Hid (SecOk S w5 b (.slice (some ⟨g5, 0, none⟩) 64 c5)) := Lib.hid ⟨g5, c5, cs5, rfl, hh5, htk5, HL.out, HSS.out _ (Nat.le_trans (Nat.le_trans HM1.out.mods.size hb0.size) hg5)⟩
              go_wp2_with fail
              refine Ord.nx_and hb5 (Ord.ord_all [_, _, _, _, _, _] rfl (by kernel_rfl) ?_)
              clear hb0 hb5 hh5 htk5 hg5
              go_wp2_with
                (refine wpList_append_vec rfl (.tmp 50) (.tmp 57) _ rfl 40 _ waitTy rfl ((HVW.out.below HB5.out).alloc _) ⟨w5.heap.size, 0, none⟩ 1 1 [.int .i64 (j : Int), .int .i64 (n : Int), .slice (some ⟨g5, 0, none⟩) 64 c5] rfl rfl (blk_news (Blk.new w5 _ _)) (by intro v hv; simp at hv; rcases hv with rfl | rfl | rfl <;> rfl) ?c1 ?c2 ?_
                 case c1 => unfold maxLen; omega
                 case c2 => omega
                 intro V7 w7 row hv7 hg7 hr7
                 obtain ⟨A7, c7, rfl⟩ := hv7.shape
                 have hB6 : Below w1.heap.size w1 (w5.alloc (.cells #[.int .i64 (j : Int), .int .i64 (n : Int), .slice (some ⟨g5, 0, none⟩) 64 c5] 112)) := HB5.out.trans ((below_al' _).mono HB5.out.size)
                 have hR6 := HR1.out.below hB6
                 have hr7' : row = none ∨ ∃ g cs, row = some g ∧ (w5.alloc (.cells #[.int .i64 (j : Int), .int .i64 (n : Int), .slice (some ⟨g5, 0, none⟩) 64 c5] 112)).heap[g]? = some (Obj.cells cs 112 (0, 0)) := hr7.imp id fun ⟨g, cs, x, _, y⟩ => ⟨g, cs, x, y⟩
                 have hkp : BytesKept _ w7 := ⟨keep_ty hg7 hr7' (by decide), keep_ty hg7 hr7' (by decide)⟩
                 have hblk7 : Blk w7 r 78 _ := keep_ty hg7 hr7' (t := 78) (by decide) r _ hR6.blk
                 have e3 := (hblk7.cell 3).trans (show _ = some (.slice AW p.step.1.waits.length cW) from rfl)
                 have z3 := hblk7.frozen 3
                 have hW7 : RWaitsAt S w7 _ (.slice A7 (p.step.1.waits.length + 1) c7) (p.step.1.waits ++ [⟨j, n, b⟩]) := RWaitsAt.push (w := w5.alloc (.cells #[.int .i64 (j : Int), .int .i64 (n : Int), .slice (some ⟨g5, 0, none⟩) 64 c5] 112)) (x := ⟨j, n, b⟩) HRL.out (fun i x hx => (HRW.out i x hx).imp fun v y => ⟨y.1, y.2.below hB6⟩) (HSC.out.below (below_al' _)) hkp hv7
                 have hfin := hR6.putW hg7 hr7 hW7
                 have HFIN := Lib.hid hfin
                 have HM6 := Lib.hid (RMods.of_below (F := Grow F w w1) hB6)
                 clear hv7 hg7 hr7 hB6 hR6 hr7' hkp hblk7 hW7 hfin hk3 hf3)
              refine Ord.nx_end ?_
              go_wp2_with fail
              go_ret2
              rw [HE.out]
              refine ⟨rfl, RGone.trans HM1.out ⟨?_, HM6.out.trans ⟨HFIN.out.2.mods.mono (Nat.le_refl _) fun g _ hg => .inl hg, HFIN.out.2.bytes⟩⟩⟩
              exact RefAt.mono ⟨_, _, _, _, _, HFIN.out.1⟩ fun g _ hg => by
                rcases hg with hg | hg
                · exact .inl hg
                · exact .inr ⟨Nat.le_trans HM6.out.mods.size hg.1, hg.2⟩
        · have hmb : ((m : Int) == 64) = false := by rw [beq_eq_false_iff_ne]; omega
          have e : p.append (j : Int) b = (p, 0, 32) := by rw [HAP.out, if_pos (by rw [HL.out]; exact hm)]
          rw [e]
          clear e
          go_enter Try.func45, Try.ntmps45
          go_wp2_with fail
          refine HLN.out.mono ?_
          rintro e _ ⟨rfl, q, rfl⟩
          go_wp2_with fail
          refine (HDK.out q).mono ?_
          rintro e _ ⟨rfl, rfl⟩
          go_wp2_with fail
          refine (HHS.out q).mono ?_
          rintro e _ ⟨rfl, q1, rfl⟩
          rw [World.drewN_drewN]
          go_wp2_with fail
          go_ret2
          exact ⟨rfl, HSM.out _⟩
end Go.Proofs.Ytomncfiklkhfjaa.Ref
