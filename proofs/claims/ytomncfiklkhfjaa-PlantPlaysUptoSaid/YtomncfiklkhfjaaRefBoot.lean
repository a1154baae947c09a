/- The reference's Boot. -/
import Derived.Test.YtomncfiklkhfjaaFold19
import Derived.Deep.QuietTactic
import Derived.BigQuiet
namespace Go.Proofs.Ytomncfiklkhfjaa.Ref
open Go Go.RowKit Mem Pl
variable {S : Nat → Prop}
theorem tmod2_in (z : Int) : -2 < z.tmod 2 ∧ z.tmod 2 < 2 := by
  rw [Int.tmod_eq_emod]
  split <;> simp <;> omega
set_option maxRecDepth 100000 in
set_option maxHeartbeats 16000000 in
theorem boot_any {w : World} {F : Nat → Prop} {r : Nat} {p : PM} {left : Int} {D T V W : Value} (h : RefB S w F r p left D T V W) (hok : p.Ok) (hlow : p.Low) (AK : Option Addr) (nk ck : Nat) (keep : List Int) (hk : IAt w AK keep) (hkl : keep.length = nk) (hkn : keep ≠ [] → ∀ ad, AK = some ad → ¬ F ad.block) (hnk : nk ≤ 9223372036854775807) (hS : ∀ g, w.heap.size ≤ g → S g) :
    Calls Try.prog 48 #[.pointer (some ⟨r, 0, none⟩), .slice AK nk ck] w fun e w' => e = .returned (.tuple #[]) ∧ RGone S F w r (p.boot keep) w' := by
  have HB := Lib.hid h
  have HSS := Lib.hid hS
  clear hS
  obtain ⟨AV, cV, rfl⟩ := h.has.shape
  obtain ⟨AW, cW, rfl⟩ := h.waits.shape
  have h2 := h.c2
  have hml : (p.devs.map (·.has)).length = p.devs.length := by simp
  rw [hml] at h2
  have hn12 := hok.n12
  have hwl := hlow.waits
  have hmk := run_makeBool hn12
  have HK := Lib.hid hk
  have HKL := Lib.hid hkl
  have HKN := Lib.hid hkn
  have HST0 : Hid (BtS S F w (w.alloc (.cells (endCells p.devs.length []) 4)) r p left D T (.slice AV (p.devs.map (·.has)).length cV) (.slice AW p.waits.length cW) w.heap.size p.devs [] (fun g => F g ∧ g < w.heap.size)) := Lib.hid
    ⟨(h.mono fun g hlt hg => ⟨hg, hlt⟩).below (below_al' _), Blk.new _ _ _, ⟨fun hf => Nat.lt_irrefl _ hf.2, Nat.le_refl _⟩, fun g hg => ⟨.inl hg.1, fun _ => hg.1, Nat.lt_of_lt_of_le hg.2 (below_al' _).size⟩, RMods.of_below (below_al' _)⟩
  clear h hk hkl hkn hml
  go_enter Try.func48, Try.ntmps48
  go_wp2_with fail
  clear hmk h2
  go_loopw [5] (fun kv wr => BtR S F w r p keep left D T (.slice AV (p.devs.map (·.has)).length cV) (.slice AW p.waits.length cW) w.heap.size kv wr) (fun kv _ => p.waits.length - (intOf kv).toNat)
  case atStart => exact ⟨0, _, Nat.zero_le _, rfl, HST0.out⟩
  case round =>
    obtain ⟨k, Fp, hk, rfl, hbt⟩ := hrel
    have HBT := Lib.hid hbt
    have f3 := hbt.ref.c3
    clear hbt HST0
    by_cases hlt : k < p.waits.length
    · obtain ⟨x, hx⟩ : ∃ x, p.waits[k]? = some x := ⟨_, List.getElem?_eq_getElem hlt⟩
      obtain ⟨gw, v, hA, _, e0, e1, e2, hsec, _⟩ := HBT.out.ref.waits.row hx
      subst hA
      have HX := Lib.hid hx
      have e0' : wr.cell? ⟨gw, k * 3, none⟩ = some (.int .i64 (x.dev : Int)) := e0
      have e1' : wr.cell? ⟨gw, k * 3 + 1, none⟩ = some (.int .i64 (x.place : Int)) := e1
      have HSEC := Lib.hid hsec
      obtain ⟨Av, cv, rfl, _, _⟩ := hsec.slice
      have hkI : (k : Int) < (p.waits.length : Int) := by omega
      have HBA := Lib.hid (boot_at hok keep hx)
      have hxd : x.dev < p.devs.length := hok.wdev x (List.mem_of_getElem? hx)
      have HA := Lib.hid (HBT.out.below (below_al' (.cells #[.int .i64 (x.dev : Int), .int .i64 (x.place : Int), .slice Av 64 cv] 112)))
      have HDK := Lib.hid (fun q : Nat => (disks_any (HA.out.ref.below (below_drewN (Below.refl _ _) q))).mono fun e w' x => (⟨x.1, x.2.symm⟩ : _ ∧ _))
      obtain ⟨d', hd1, hd2, hd3, hd4⟩ := HBA.out.dev
      have HD1 := Lib.hid hd1
      have HD2 := Lib.hid hd2
      have HD3 := Lib.hid hd3
      have HD4 := Lib.hid hd4
      clear e0 e1 hx hsec hd1 hd2 hd3 hd4
      have hblk := Blk.new wr 112 #[.int .i64 (x.dev : Int), .int .i64 (x.place : Int), .slice Av 64 cv]
      have b0 := (hblk.cell 0).trans (show _ = some (.int .i64 (x.dev : Int)) from rfl)
      have b1 := (hblk.cell 1).trans (show _ = some (.int .i64 (x.place : Int)) from rfl)
      have b2 := (hblk.cell 2).trans (show _ = some (.slice Av 64 cv) from rfl)
      have zb := hblk.frozen
      have HBLK := Lib.hid hblk
      clear hblk
      by_cases hn0 : nk = 0
      · have HZ : Hid (keepAt keep k = 0) := Lib.hid (by unfold keepAt; rw [if_pos (by rw [HKL.out]; exact hn0)])
        subst hn0
        by_cases hdk : x.dev < p.disks.length
        · have hdI : (x.dev : Int) < (p.disks.length : Int) := by omega
          have HE := Lib.hid (boot_disk_even HBA.out HX.out hdk (by rw [HZ.out]; decide))
          go_wp2_with fail
          go_quiet ((go_at_call 75; exact Calls.quiet_of_same (HDK.out _)))
          go_wp2_with fail
          go_roundw
          case rel => exact (HA.out.below (below_drewN (Below.refl _ _) nq)).to_ HE.out hlt
          case measure => simp [intOf]; omega
        · have hdI : ¬ (x.dev : Int) < (p.disks.length : Int) := by omega
          have hxI : (x.dev : Int) < (p.devs.length : Int) := by omega
          have hce := (HA.out.ended.cell x.dev).trans (endCells_get hxd)
          have hfe := HA.out.ended.frozen x.dev
          have hgl := HA.out.ended.lt
          by_cases hc : (p.bootAt keep k).2.contains x.dev = true
          · have HE := Lib.hid (boot_ended HX.out hc)
            rw [hc] at hce
            go_wp2_with fail
            go_quiet ((go_at_call 75; exact Calls.quiet_of_same (HDK.out _)))
            go_wp2_with fail
            go_roundw
            case rel => exact (HA.out.below (below_drewN (Below.refl _ _) nq)).to_ HE.out hlt
            case measure => simp [intOf]; omega
          · have hcf : (p.bootAt keep k).2.contains x.dev = false := by simpa using hc
            rw [hcf] at hce
            clear hc
            have HE := Lib.hid (boot_tape_end HBA.out HX.out hdk hcf (by rw [HZ.out]; decide) (by rw [HZ.out]; decide))
            clear hcf
            have ha3 := and_3 0
            go_wp2_with fail
            go_quiet ((go_at_call 75; exact Calls.quiet_of_same (HDK.out _)))
            go_wp2_with fail
            go_roundw
            case rel => exact ((HA.out.below (below_drewN (Below.refl _ _) nq)).mark (x := x) hxd).to_ HE.out hlt
            case measure => simp [intOf]; omega
      · have hkc : ∃ ad, AK = some ad ∧ wr.cell? (ad.add (k % nk)) = some (.int .i64 (keepAt keep k)) := by
          have hl := HKL.out
          have hne : keep ≠ [] := by rintro rfl; simp at hl; omega
          rcases HK.out.mods HBT.out.mods.mods (Nat.le_refl _) HKN.out with h | ⟨ad, hA, hc⟩
          · exact absurd h hne
          · refine ⟨ad, hA, hc _ _ ?_⟩
            have hm : k % nk < keep.length := by rw [hl]; exact Nat.mod_lt _ (by omega)
            unfold keepAt
            rw [if_neg (by omega), hl, List.getD_eq_getElem?_getD, List.getElem?_eq_getElem hm]
            rfl
        obtain ⟨ad, hA, hcz⟩ := hkc
        subst hA
        have hnkI : (0 : Int) < (nk : Int) := by omega
        have htm : (k : Int).tmod (nk : Int) = ((k % nk : Nat) : Int) := by rw [IntWalk.rem_in _ _ (by omega)]; omega
        have hkn' : k % nk < nk := Nat.mod_lt _ (by omega)
        have hkn2 : ((k % nk : Nat) : Int) < (nk : Int) := by omega
        have hne0 : ((nk : Int) == 0) = false := by rw [beq_eq_false_iff_ne]; omega
        obtain ⟨kn, hkn⟩ : ∃ kn, k % nk = kn := ⟨_, rfl⟩
        rw [hkn] at htm hcz hkn2
        clear hkn hkn'
        generalize hz : keepAt keep k = z at *
        have HZ := Lib.hid hz
        have hw2 : IntKind.i64.wrap (z.tmod 2) = z.tmod 2 := by
          have h1 := tmod2_in z
          exact IntWalk.i64_in _ (by omega)
        have hr2 := rem2 z
        clear hz
        by_cases hdk : x.dev < p.disks.length
        · have hdI : (x.dev : Int) < (p.disks.length : Int) := by omega
          by_cases hodd : z % 2 ≠ 0
          · have HE := Lib.hid (boot_disk_odd HBA.out HX.out hdk (by rw [HZ.out]; exact hodd))
            have hb2 : (z.tmod 2 == 0) = false := by rw [hr2, beq_eq_false_iff_ne]; exact hodd
            have hbn : (z.tmod 2 != 0) = true := by unfold bne; rw [hb2]; rfl
            clear hr2
            have HSE := Lib.hid (fun q : Nat => settle_any (HA.out.ref.below (below_drewN (Below.refl _ _) q)) x d' HD1.out HD2.out HD3.out HD4.out HBA.out.len HBA.out.place (.slice Av 64 cv) ((HSEC.out.below (below_al' _)).below (below_drewN (Below.refl _ _) q)))
            go_wp2_with fail
            go_quiet ((go_at_call 75; exact Calls.quiet_of_same (HDK.out _)))
            go_wp2_with fail
            refine (HSE.out _).mono ?_
            rintro e w' ⟨rfl, hr', hm'⟩
            have HR' := Lib.hid hr'
            have HM' := Lib.hid hm'
            clear hr' hm'
            go_wp2_with fail
            go_roundw
            case rel => exact (BtS.set_ (HA.out.below (below_drewN (Below.refl _ _) _)) HR'.out HM'.out).to_ HE.out hlt
            case measure => simp [intOf]; omega
          · have HE := Lib.hid (boot_disk_even HBA.out HX.out hdk (by rw [HZ.out]; exact hodd))
            have hb2 : (z.tmod 2 == 0) = true := by rw [hr2, beq_iff_eq]; omega
            have hbn : (z.tmod 2 != 0) = false := by unfold bne; rw [hb2]; rfl
            clear hr2
            go_wp2_with fail
            go_quiet ((go_at_call 75; exact Calls.quiet_of_same (HDK.out _)))
            go_wp2_with fail
            go_roundw
            case rel => exact (HA.out.below (below_drewN (Below.refl _ _) nq)).to_ HE.out hlt
            case measure => simp [intOf]; omega
        · have hdI : ¬ (x.dev : Int) < (p.disks.length : Int) := by omega
          have hxI : (x.dev : Int) < (p.devs.length : Int) := by omega
          have hce := (HA.out.ended.cell x.dev).trans (endCells_get hxd)
          have hfe := HA.out.ended.frozen x.dev
          have hgl := HA.out.ended.lt
          by_cases hc : (p.bootAt keep k).2.contains x.dev = true
          · have HE := Lib.hid (boot_ended HX.out hc)
            rw [hc] at hce
            clear hr2
            go_wp2_with fail
            go_quiet ((go_at_call 75; exact Calls.quiet_of_same (HDK.out _)))
            go_wp2_with fail
            go_roundw
            case rel => exact (HA.out.below (below_drewN (Below.refl _ _) nq)).to_ HE.out hlt
            case measure => simp [intOf]; omega
          · have hcf : (p.bootAt keep k).2.contains x.dev = false := by simpa using hc
            rw [hcf] at hce
            clear hc
            by_cases hodd : z % 2 ≠ 0
            · have HE := Lib.hid (boot_tape_odd HX.out hcf (by rw [HZ.out]; exact hodd))
              clear hcf
              have hb2 : (z.tmod 2 == 0) = false := by rw [hr2, beq_eq_false_iff_ne]; exact hodd
              have hbn : (z.tmod 2 != 0) = true := by unfold bne; rw [hb2]; rfl
              clear hr2
              have HSE := Lib.hid (fun q : Nat => settle_any (HA.out.ref.below (below_drewN (Below.refl _ _) q)) x d' HD1.out HD2.out HD3.out HD4.out HBA.out.len HBA.out.place (.slice Av 64 cv) ((HSEC.out.below (below_al' _)).below (below_drewN (Below.refl _ _) q)))
              go_wp2_with fail
              go_quiet ((go_at_call 75; exact Calls.quiet_of_same (HDK.out _)))
              go_wp2_with fail
              refine (HSE.out _).mono ?_
              rintro e w' ⟨rfl, hr', hm'⟩
              have HR' := Lib.hid hr'
              have HM' := Lib.hid hm'
              clear hr' hm'
              go_wp2_with fail
              go_roundw
              case rel => exact (BtS.set_ (HA.out.below (below_drewN (Below.refl _ _) _)) HR'.out HM'.out).to_ HE.out hlt
              case measure => simp [intOf]; omega
            · have ha3 := and_3 z
              by_cases hk4 : z % 4 = 2
              · have HE := Lib.hid (boot_tape_torn HBA.out HX.out hdk hcf (by rw [HZ.out]; exact hodd) (by rw [HZ.out]; exact hk4))
                have hb4 : (z % 4 == 2) = true := by rw [beq_iff_eq]; exact hk4
                clear hcf
                have hb2 : (z.tmod 2 == 0) = true := by rw [hr2, beq_iff_eq]; omega
                have hbn : (z.tmod 2 != 0) = false := by unfold bne; rw [hb2]; rfl
                clear hr2
                have hbox : wr.heap.size ≠ w.heap.size := by have := HBT.out.ended.lt; omega
                go_wp2_with fail
                go_quiet ((go_at_call 75; exact Calls.quiet_of_same (HDK.out _)))
                have hM := (HA.out.below (below_drewN (Below.refl _ _) nq)).mark (x := x) hxd
                have hbk := (HBLK.out.drewN nq).far (p := ⟨w.heap.size, x.dev, none⟩) hbox (.bool true)
                have hkb : BytesKept (wr.alloc (.cells #[.int .i64 (x.dev : Int), .int .i64 (x.place : Int), .slice Av 64 cv] 112)) (((wr.alloc (.cells #[.int .i64 (x.dev : Int), .int .i64 (x.place : Int), .slice Av 64 cv] 112)).drewN nq).setCell ⟨w.heap.size, x.dev, none⟩ (.bool true)) := BytesKept.of fun t ht g cs hh =>
                  Blk.far (w := (wr.alloc (.cells #[.int .i64 (x.dev : Int), .int .i64 (x.place : Int), .slice Av 64 cv] 112)).drewN nq) (g := g) (t := t) (cs := cs) hh (p := ⟨w.heap.size, x.dev, none⟩) (Blk.ne_ (w := wr.alloc (.cells #[.int .i64 (x.dev : Int), .int .i64 (x.place : Int), .slice Av 64 cv] 112)) (g := g) (t := t) (cs := cs) hh HA.out.ended (by rcases ht with rfl | rfl <;> decide)) _
                have hsecM := (HSEC.out.below (below_al' (.cells #[.int .i64 (x.dev : Int), .int .i64 (x.place : Int), .slice Av 64 cv] 112))).keep hkb
                obtain ⟨_, _, hes, hbatM, _⟩ := hsecM.slice
                injection hes with hes1 hes2 hes3
                subst hes1 hes3
                have c2 := (hbk.cell 2).trans (show _ = some (.slice Av 64 cv) from rfl)
                have HM := Lib.hid hM
                have HBK := Lib.hid hbk
                have HBAT := Lib.hid hbatM
                have hwl3 := hbk.lt
                have H64 := Lib.hid HBA.out.b64
                clear hM hbk hkb hsecM hbatM
                generalize hwm : (((wr.alloc (.cells #[.int .i64 (x.dev : Int), .int .i64 (x.place : Int), .slice Av 64 cv] 112)).drewN nq).setCell ⟨w.heap.size, x.dev, none⟩ (.bool true)) = wm at *
                go_wp2_with
                  (at_builtin
                   refine wpList_copy_sec rfl (.tmp 71) (.tmp 73) rfl _ rfl Av cv x.b rfl (HBAT.out.below (below_al' _)) H64.out ?_
                   intro g5 c5 cs5 w5 hh5 htk5 hg5 hb5
                   have hbm : Below wm.heap.size wm w5 := (below_al' (.cells #[] 5)).trans (hb5.mono (below_al' (.cells #[] 5)).size)
                   have HH5 := Lib.hid hh5
                   have HTK5 := Lib.hid htk5
                   have HB5 := Lib.hid hbm
                   have hg5' : wm.heap.size ≤ g5 := Nat.le_trans (below_al' (.cells #[] 5)).size hg5
                   have HG5 := Lib.hid hg5'
                   clear hh5 htk5 hg5 hb5 hbm c2 hg5')
                go_loopw [10] (fun jv wx => TnR wm g5 x.b jv wx) (fun jv _ => 64 - (intOf jv).toNat)
                case atStart => exact ⟨32, cs5, by omega, by omega, rfl, HB5.out, HH5.out, by rw [tornTo_start]; exact HTK5.out⟩
                case round =>
                  rename World => wx
                  obtain ⟨j, cs, hj1, hj2, rfl, hbl, hbkg, htk⟩ := hrel
                  have HBL := Lib.hid hbl
                  have HBG := Lib.hid hbkg
                  have HTK := Lib.hid htk
                  by_cases hj : j < 64
                  · have hjI : (j : Int) < 64 := by omega
                    obtain ⟨v0, hv0⟩ := tn_cell H64.out hj1 hj htk
                    have hc0 := (hbkg.cell j).trans hv0
                    have hz0 := hbkg.frozen j
                    have hgl := hbkg.lt
                    have HNX := Lib.hid (tn_next H64.out hj1 hj htk)
                    have HSB := Lib.hid (hbkg.set_ j (.int .u8 0))
                    have HSM : Hid (Below wm.heap.size wm (wx.setCell ⟨g5, j, none⟩ (.int .u8 0))) := Lib.hid (((Mods.of_below (F := fun _ => False) hbl).setCell (p := ⟨g5, j, none⟩) (.inr HG5.out) (.int .u8 0)).below fun _ _ h => h)
                    clear hbl hbkg htk hv0
                    go_wp2_with fail
                    go_roundw
                    case rel => exact ⟨j + 1, _, by omega, by omega, by simp, HSM.out, HSB.out, HNX.out⟩
                    case measure => simp [intOf]; omega
                  · obtain rfl : j = 64 := by omega
                    have hbx := HBK.out.below_ hbl
                    have y0 := (hbx.cell 0).trans (show _ = some (.int .i64 (x.dev : Int)) from rfl)
                    have y1 := (hbx.cell 1).trans (show _ = some (.int .i64 (x.place : Int)) from rfl)
                    have y2 := (hbx.cell 2).trans (show _ = some (.slice Av 64 cv) from rfl)
                    have yz := hbx.frozen 2
                    have yl := hbx.lt
                    have HBX := Lib.hid hbx
                    have hfarY : ∀ (t : TypeId), t ≠ 112 → ∀ (g : Nat) (cs : Array Value), wx.heap[g]? = some (Obj.cells cs t (0, 0)) → (wx.setCell ⟨wr.heap.size, 2, none⟩ (.slice (some ⟨g5, 0, none⟩) 64 c5)).heap[g]? = some (Obj.cells cs t (0, 0)) := fun t ht g cs hh =>
                      Blk.far (w := wx) (g := g) (t := t) (cs := cs) hh (p := ⟨wr.heap.size, 2, none⟩) (Blk.ne_ (w := wx) (g := g) (t := t) (cs := cs) hh hbx ht) _
                    have hmY : Mods wx.heap.size (fun g => g = wr.heap.size) wx (wx.setCell ⟨wr.heap.size, 2, none⟩ (.slice (some ⟨g5, 0, none⟩) 64 c5)) := (Mods.refl wx.heap.size (fun g => g = wr.heap.size) wx).setCell (p := ⟨wr.heap.size, 2, none⟩) (.inl rfl) _
                    have hY := (HM.out.below hbl).beside hmY (fun g hg => by
                      have hg' : g = wr.heap.size := hg
                      subst hg'
                      exact ⟨fun hf => Nat.lt_irrefl _ (HBT.out.fp _ hf).2.2, hbox, HBT.out.mods.mods.size⟩) ⟨hfarY _ (by decide), hfarY _ (by decide)⟩
                    have hsY : SecOk S (wx.setCell ⟨wr.heap.size, 2, none⟩ (.slice (some ⟨g5, 0, none⟩) 64 c5)) (torn x.b) (.slice (some ⟨g5, 0, none⟩) 64 c5) := ⟨g5, c5, cs, rfl, hfarY _ (by decide) g5 cs hbkg, by rw [htk, tornTo_end H64.out], torn_len H64.out, HSS.out _ (Nat.le_trans HM.out.mods.mods.size HG5.out)⟩
                    have HY := Lib.hid hY
                    have HSE := Lib.hid (settle_any hY.ref { x with b := torn x.b } d' HD1.out HD2.out HD3.out HD4.out HBA.out.len HBA.out.place _ hsY)
                    have hbY := hbx.set_ 2 (.slice (some ⟨g5, 0, none⟩) 64 c5)
                    have u0 := (hbY.cell 0).trans (show _ = some (.int .i64 (x.dev : Int)) from rfl)
                    have u1 := (hbY.cell 1).trans (show _ = some (.int .i64 (x.place : Int)) from rfl)
                    have u2 := (hbY.cell 2).trans (show _ = some (.slice (some ⟨g5, 0, none⟩) 64 c5) from rfl)
                    clear hbl hbkg htk hbx hfarY hmY hY hsY hbY
                    go_wp2_with fail
                    refine HSE.out.mono ?_
                    rintro e w' ⟨rfl, hr', hm'⟩
                    have HR' := Lib.hid hr'
                    have HM' := Lib.hid hm'
                    clear hr' hm'
                    go_wp2_with fail
                    go_roundw
                    case rel => exact (BtS.set_ HY.out HR'.out HM'.out).to_ HE.out hlt
                    case measure => simp [intOf]; omega
              · have HE := Lib.hid (boot_tape_end HBA.out HX.out hdk hcf (by rw [HZ.out]; exact hodd) (by rw [HZ.out]; exact hk4))
                have hb4 : (z % 4 == 2) = false := by rw [beq_eq_false_iff_ne]; exact hk4
                clear hcf
                have hb2 : (z.tmod 2 == 0) = true := by rw [hr2, beq_iff_eq]; omega
                have hbn : (z.tmod 2 != 0) = false := by unfold bne; rw [hb2]; rfl
                clear hr2
                go_wp2_with fail
                go_quiet ((go_at_call 75; exact Calls.quiet_of_same (HDK.out _)))
                go_wp2_with fail
                go_roundw
                case rel => exact ((HA.out.below (below_drewN (Below.refl _ _) nq)).mark (x := x) hxd).to_ HE.out hlt
                case measure => simp [intOf]; omega
    · obtain rfl : k = p.waits.length := by omega
      have z3 := HBT.out.ref.fz 3
      have z4 := HBT.out.ref.fz 4
      have z5 := HBT.out.ref.fz 5
      have f4 := HBT.out.ref.c4
      have f5 := HBT.out.ref.c5
      have hrl := HBT.out.ref.blk.lt
      go_wp2_with fail
      go_end0
      have hfr := HBT.out.ref
      obtain ⟨k1, k2⟩ := hfr.putW (World.grownBy.refl wr none) (.inl rfl) (W5 := .slice none 0 0) (ws' := []) ⟨[], Vec.nil_ _ _ _ _ _, rfl, fun i x h => by simp at h⟩
      have hb := (k1.blk.set_ 4 (.bool false)).set_ 5 (.bool false)
      obtain ⟨k3, k4⟩ := k1.turnG (q := { p with devs := (p.bootAt keep p.waits.length).1, waits := [], off := false, fuse := none }) (left' := left) ⟨rfl, rfl, rfl, rfl⟩ (fun n hn => by cases hn) k1.lrange (w' := ((wr.setCell ⟨r, 3, none⟩ (.slice none 0 0)).setCell ⟨r, 4, none⟩ (.bool false)).setCell ⟨r, 5, none⟩ (.bool false)) (by simpa [rfCells] using hb) (fun k hk => (heap_set_ne _ _ _ _ _ hk).trans (heap_set_ne _ _ _ _ _ hk)) (mods_set _ _ _ _ _ (mods_set _ _ _ _ _ (Mods.refl _ _ _)))
      have k5 := k2.trans k4
      have hsz := HBT.out.mods.mods.size
      have hsz2 := k2.mods.size
      have hsz3 := k4.mods.size
      rw [PM.boot_eq]
      refine ⟨rfl, RefAt.mono ⟨_, _, _, _, _, k3⟩ fun g _ hg => ?_, HBT.out.mods.mods.trans (k5.mods.mono hsz fun g hlt hg => (HBT.out.fp g hg).2.1 hlt), HBT.out.mods.bytes.trans k5.bytes⟩
      rcases grow_grow hsz2 hsz3 g hg with hg | hg
      · obtain ⟨q1, q2, q3⟩ := HBT.out.fp g hg
        rcases q1 with q1 | q1
        · exact .inl q1
        · exact .inr ⟨q1, by omega⟩
      · exact .inr ⟨by omega, hg.2⟩
end Go.Proofs.Ytomncfiklkhfjaa.Ref
