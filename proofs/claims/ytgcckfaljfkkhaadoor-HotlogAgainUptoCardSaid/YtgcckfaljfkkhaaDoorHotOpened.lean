/- The stand's 'opened': the disk opened anew with what is in use, in another order. -/
import Derived.Test.YtgcckfaljfkkhaaDoorFold22
namespace Go.Proofs.YtgcckfaljfkkhaaDoor.Hot
open Go Go.RowKit Mem Pl Disk Crc _root_.Go.Proofs.YtgcckfaljfkkhaaDoor.Frame
/-- The places from behind, so many of them, in a row of the call's own. -/
def BackR (w : World) (used : List Pc) (g : Nat) (sv iv : Value) (wr : World) : Prop :=
  ∃ k : Nat, k + g = used.length ∧ iv = .int .i64 ((used.length : Int) - 1 - (k : Int)) ∧ Vec wr (New w wr) 36 4 sv k ((backs used k).flatMap Plc.cells) ∧ Below w.heap.size w wr
/-- The row is zeroed. -/
def ZeroR (w4 : World) (gS L : Nat) (iv : Value) (wx : World) : Prop :=
  ∃ (i : Nat) (cur : List Value), i ≤ L ∧ iv = .int .i64 (i : Int) ∧ (0 < L → Blk wx gS 36 cur.toArray ∧ L * 4 ≤ cur.length) ∧ Mods w4.heap.size (fun g => g = gS ∧ 0 < L) w4 wx
set_option maxRecDepth 100000 in
set_option maxHeartbeats 8000000 in
theorem opened_any {B : Nat} {w : World} {s a h r : Nat} {F H G : Nat → Prop} {pm : PM} {m n : Nat} {Hs : List (List UInt8)} {segs : List Nat} {hsed used : List Pc} {bytes : List (List UInt8)} {ever dims : Nat} (x : StandB B w s a h r F H G pm m n Hs segs hsed used bytes ever dims) (hul : used.length ≤ 100000000) (hm : m ≤ 1000000000) :
    Calls Tryd.prog 22 #[.pointer (some ⟨s, 0, none⟩)] w fun e w' => e = .returned (.bool true) ∧ ∃ h' H' segs' hsed', StandB B w' s a h' r F H' G pm m n Hs segs' hsed' used bytes ever dims ∧ segs'.length = segs.length ∧ (∀ g, H' g → w.heap.size ≤ g) ∧ Mods w.heap.size (fun g => g = s) w w' := by
  have HX := Lib.hid x
  obtain ⟨_, c1, c2, _, _⟩ := x.c0
  have hls := x.blk.lt
  obtain ⟨U, V, vs, y⟩ := x.ref
  have u2 := y.c2
  have hlr := y.blk.lt
  obtain ⟨AU, cU, hUe⟩ := y.uv.shape
  rw [hUe] at u2
  clear x y hUe
  have hw1 : IntKind.i64.wrap ((used.length : Int) - 1) = (used.length : Int) - 1 := IntWalk.i64_in _ (by omega)
  go_enter Tryd.func22, Tryd.ntmps22
  have hb1 : Below w.heap.size w (w.alloc (.cells #[] 36)) := below_al' _
  have HB1 := Lib.hid hb1
  clear hb1
  go_wp2_with fail
  generalize w.alloc (.cells #[] 36) = w1 at *
  go_loopg [3, 4] used.length (fun g sv iv wr => BackR w used g sv iv wr)
  case atStart => exact ⟨0, by omega, by simp, Vec.nil_ _ _ _ _ _, HB1.out⟩
  case round =>
    obtain ⟨k, hk, rfl, hv, hb⟩ := hrel
    have HV := Lib.hid hv
    have HB := Lib.hid hb
    have HGI := Lib.hid hk
    have HXr := Lib.hid (HX.out.below hb)
    obtain ⟨_, c1, c2, _, _⟩ := HXr.out.c0
    have hls := HXr.out.blk.lt
    obtain ⟨U, V, vs, y⟩ := HXr.out.ref
    have HY := Lib.hid y
    have u2 := y.c2
    have hlr := y.blk.lt
    obtain ⟨Ab, cb, rfl⟩ := hv.shape
    clear hv hb hk
    by_cases hlt : k < used.length
    · obtain ⟨i, hi⟩ : ∃ i, i + k + 1 = used.length := ⟨used.length - 1 - k, by omega⟩
      have hiI : (used.length : Int) - 1 - (k : Int) = (i : Int) := by omega
      rw [hiI]
      have hge : (0 : Int) ≤ (i : Int) := by omega
      have hil : (i : Int) < (used.length : Int) := by omega
      obtain ⟨u, hu⟩ : ∃ u, used[i]? = some u := ⟨_, List.getElem?_eq_getElem (by omega)⟩
      obtain ⟨g, c, hU, e0, e1, e2, e3⟩ := used_cells HY.out.uv hu
      rw [hU] at u2
      have e0 : wr.cell? ⟨g, i * 4, none⟩ = some (.int .i64 1) := e0
      have hmod : (i : Int).tmod 2 = ((i % 2 : Nat) : Int) := by rw [Int.tmod_eq_emod_of_nonneg (by omega)]; omega
      obtain ⟨bad, hbad⟩ : ∃ bad : Bool, decide (i % 2 = 0) = bad := ⟨_, rfl⟩
      have hbadI : ((i : Int) % 2 == 0) = bad := by
        rw [← hbad, Bool.eq_iff_iff, beq_iff_eq, decide_eq_true_iff]
        omega
      have HU := Lib.hid hu
      have HBAD := Lib.hid hbad
      clear hiI hU hu hbad y
      go_upto_region 7 with fail
      have hb4 : Below wr.heap.size wr (wr.alloc (.cells #[.int .i64 1, .int .i64 (u.1 : Int), .int .i64 (u.2 : Int), .bool bad] 36)) := below_al' _
      have hk4 := Blk.new wr 36 #[.int .i64 1, .int .i64 (u.1 : Int), .int .i64 (u.2 : Int), .bool bad]
      have HB4 := Lib.hid hb4
      have HK4 := Lib.hid hk4
      clear hb4 hk4
      generalize wr.alloc (.cells #[.int .i64 1, .int .i64 (u.1 : Int), .int .i64 (u.2 : Int), .bool bad] 36) = w4 at *
      have k0 := (HK4.out.cell 0).trans (show _ = some (.int .i64 1) from rfl)
      have k1 := (HK4.out.cell 1).trans (show _ = some (.int .i64 (u.1 : Int)) from rfl)
      have k2 := (HK4.out.cell 2).trans (show _ = some (.int .i64 (u.2 : Int)) from rfl)
      have k3 := (HK4.out.cell 3).trans (show _ = some (.bool bad) from rfl)
      have hlk4 := HK4.out.lt
      have hba5 : Below w4.heap.size w4 (w4.alloc (.cells #[.int .i64 1, .int .i64 (u.1 : Int), .int .i64 (u.2 : Int), .bool bad] 36)) := below_al' _
      have HV5 := Lib.hid ((HV.out.below HB4.out).below hba5)
      have HB45 := Lib.hid (HB4.out.trans (hba5.mono HB4.out.size))
      have hkl : k ≤ 100000000 := by omega
      clear hba5
      go_wp2_with
        (refine wpList_buildSlice_row rfl 22 36 (.tmp 38) rfl placeTy [.int .i64 1, .int .i64 (u.1 : Int), .int .i64 (u.2 : Int), .bool bad] rfl (show _ = 1 * 4 from rfl) (by omega) w4.heap.size rfl ?_
         go_wp2_with
           (refine wpList_append_vec rfl (.tmp 37) (.tmp 39) _ rfl 32 _ placeTy rfl HV5.out ⟨w4.heap.size, 0, none⟩ 1 1 [.int .i64 1, .int .i64 (u.1 : Int), .int .i64 (u.2 : Int), .bool bad] rfl (show _ = 1 * 4 from rfl) (blk_news (Blk.new w4 _ _)) (by intro v hv; simp at hv; rcases hv with rfl | rfl | rfl | rfl <;> rfl) ?c1 ?c2 ?_
            case c1 => unfold maxLen; omega
            case c2 => omega
            intro W7 w7 row7 hv7 hg7 hr7
            have HV7 := Lib.hid hv7
            have HG7 := Lib.hid hg7
            have HR7 := Lib.hid hr7
            clear hv7 hg7 hr7 k0 k1 k2 k3))
      have hle := HB.out.size
      have hle5 := HB45.out.size
      have hb7 : Below w.heap.size w w7 := (HB.out.trans (HB45.out.mono hle)).grown HG7.out (Nat.le_trans hle hle5) fun q hq => by
        rcases HR7.out with h | ⟨g', _, h, h2, _⟩
        · rw [h] at hq; cases hq
        · rw [h] at hq
          injection hq with hq
          subst hq
          exact h2.1
      have hv7 := HV7.out.mono (G := New w w7) fun q hlt hq => by
        rcases hq with hq | ⟨h6, h7⟩
        · exact ⟨hq.1, hlt⟩
        · exact ⟨by omega, hlt⟩
      have hcells := back_cells hi HU.out HBAD.out
      go_roundg (gk - 1)
      case measure => have := HGI.out; omega
      case rel => exact ⟨k + 1, by have := HGI.out; omega, by congr 1; omega, by rw [hcells]; exact hv7, hb7⟩
    · obtain rfl : k = used.length := by have := HGI.out; omega
      have hneg : (used.length : Int) - 1 - (used.length : Int) = -1 := by omega
      have HND := Lib.hid HXr.out.dev1
      have HOKS := Lib.hid HXr.out.oks
      have hseg : n / 16 ≤ 256 := by have := HXr.out.n4; omega
      have HPS := Lib.hid (backs_at HOKS.out.1 hseg (Nat.le_refl _) HV.out)
      have HOP := Lib.hid (hopen_any HXr.out.hot.st.at_ HXr.out.hot.st.ok 1 Ab used.length cb (backs used used.length) HPS.out (backs_len _ _) hul)
      rw [hneg]
      have c0 := HXr.out.c0.1
      clear hneg y
      go_wp2_with fail
      refine HOP.out.mono ?_
      rintro e w3 ⟨hb3, ⟨hno, _⟩ | ⟨d, n', hd, hn', hr⟩⟩
      · exact absurd ⟨by omega, by have := HND.out.1; omega⟩ hno
      obtain rfl : d = 1 := by omega
      rw [HND.out.2] at hn'
      injection hn' with hn'
      subst hn'
      rw [openM_backs HOKS.out.1 HOKS.out.2] at hr
      rcases hr with ⟨h, _⟩ | ⟨vsed, h', segs', h, rfl, hh, hok', hsl⟩
      · cases h
      injection h with h
      subst h
      have hpm : used.reverse.Perm used := used.reverse_perm
      have hre := HXr.out.reopen hb3 hh hok' hsl hpm
      have HRE := Lib.hid hre.1
      have HSL := Lib.hid hre.2
      have HV3 := Lib.hid (HV.out.below hb3)
      have HB3 := Lib.hid (HB.out.trans (hb3.mono HB.out.size))
      have hls3 : s < w3.heap.size := by have := hb3.size; omega
      have k1 : w3.cell? ⟨s, 1, none⟩ = some (.pointer (some ⟨h, 0, none⟩)) := (HXr.out.below hb3).c0.2.1
      have z1 : w3.frozen? ⟨s, 1, none⟩ = false := (HXr.out.below hb3).blk.frozen 1
      clear hre hh hok' hsl hb3 hd c0 c1 c2 u2 HOP HPS hpm
      have HMS : Hid (Mods w.heap.size (fun g => g = s) w (w3.setCell ⟨s, 1, none⟩ (.pointer (some ⟨h', 0, none⟩)))) := Lib.hid (Mods.setCell (F := fun g => g = s) (p := ⟨s, 1, none⟩) (Mods.of_below HB3.out) (.inl rfl) _)
      obtain ⟨gS, hgS⟩ : ∃ gS, 0 < used.length → Ab = some ⟨gS, 0, none⟩ ∧ w.heap.size ≤ gS ∧ gS < wr.heap.size ∧ ∃ cur : List Value, Blk (w3.setCell ⟨s, 1, none⟩ (.pointer (some ⟨h', 0, none⟩))) gS 36 cur.toArray ∧ used.length * 4 ≤ cur.length := by
        by_cases h0 : 0 < used.length
        · obtain ⟨g, c, cur, e, hn, hh, hnc, _, hcs, _⟩ := HV3.out.form h0
          injection e with e _ _
          refine ⟨g, fun _ => ⟨e, hn.1, hn.2, cur.toList, ?_, (by have hl : cur.toList.length = c * 4 := (by simpa using hcs); omega)⟩⟩
          have hgs : g ≠ s := fun e => by have := hn.1; have := HX.out.blk.lt; omega
          exact (show Blk w3 g 36 cur.toList.toArray from hh).far (p := ⟨s, 1, none⟩) hgs _
        · exact ⟨0, fun h => absurd h h0⟩
      have HGS := Lib.hid hgS
      clear hgS HV3
      go_upto_region 13 with fail
      clear k1 z1 hls3
      generalize w3.setCell ⟨s, 1, none⟩ (.pointer (some ⟨h', 0, none⟩)) = w4 at *
      go_loopw [8] (fun iv wx => ZeroR w4 gS used.length iv wx) (fun iv _ => used.length - (intOf iv).toNat)
      case atStart =>
        by_cases h0 : 0 < used.length
        · obtain ⟨_, _, _, cur, h1, h2⟩ := HGS.out h0
          exact ⟨0, cur, by omega, by simp, fun _ => ⟨h1, h2⟩, Mods.refl _ _ _⟩
        · exact ⟨0, [], by omega, by simp, fun h => absurd h h0, Mods.refl _ _ _⟩
      case round =>
        obtain ⟨i, cur, hi, rfl, hc, hmo⟩ := hrel
        have HC := Lib.hid hc
        have HMO := Lib.hid hmo
        clear hc hmo
        by_cases hlt' : i < used.length
        · have hiI : (i : Int) < (used.length : Int) := by omega
          obtain ⟨hA, hg1, hg2, _⟩ := HGS.out (by omega)
          obtain ⟨hbk, hcl⟩ := HC.out (by omega)
          subst hA
          have HBK := Lib.hid hbk
          clear hbk
          go_wp2_with
            (refine wpList_store_in rfl 36 (.tmp 69) (.tmp 68) rfl gS (i * 4) 36 cur [.int .i64 0, .int .i64 0, .int .i64 0, .bool false] rfl rfl HBK.out (by simp; omega) (by kernel_rfl) pc0_one ?_
             intro w6 hb6 hg6 hz6
             have HB6 := Lib.hid hb6
             have HG6 := Lib.hid hg6
             have HZ6 := Lib.hid hz6
             clear hb6 hg6 hz6)
          go_roundw
          case rel => exact ⟨i + 1, _, hlt', by go_num, fun _ => ⟨HB6.out, by simp only [List.length_append, List.length_take, List.length_drop, List.length_cons, List.length_nil]; omega⟩, HMO.out.grown HG6.out HMO.out.size fun g e => by injection e with e; exact .inl ⟨e.symm, by omega⟩⟩
          case measure => simp [intOf]; omega
        · obtain rfl : i = used.length := by omega
          have hiI : ¬ ((used.length : Nat) : Int) < (used.length : Int) := by omega
          have hs4 := HMO.out
          have HX4 := Lib.hid (HRE.out.mods hs4 (fun g hg ⟨e, h0⟩ => by have := (HX.out.hot.st.lt g hg).2; have := (HGS.out h0).2.1; omega) (fun g hg ⟨e, h0⟩ => by have := hg.1; have := (HGS.out h0).2.2.1; omega) (fun g hg ⟨e, h0⟩ => by have := (HX.out.lt g hg).2; have := (HGS.out h0).2.1; omega) (fun ⟨e, h0⟩ => by have := HX.out.blk.lt; have := (HGS.out h0).2.1; omega) (fun g ⟨e, h0⟩ => by have := HX.out.hB; have := (HGS.out h0).2.1; omega))
          clear hs4
          go_wp2_with fail
          refine (all_any HX4.out (by omega) hm).mono ?_
          rintro e w8 ⟨rfl, hb8⟩
          have HB8 := Lib.hid hb8
          clear hb8
          go_wp2_with fail
          go_ret
          have hw4 := HMS.out.size
          refine ⟨rfl, h', _, segs', _, HX4.out.below HB8.out, HSL.out, fun g hg => Nat.le_trans HB.out.size hg.1, ?_⟩
          have hm8 := HMS.out.trans (HMO.out.mono hw4 fun g hlt ⟨e, h0⟩ => by have := (HGS.out h0).2.1; omega)
          exact hm8.then_below HB8.out (Nat.le_trans hw4 HMO.out.size)
end Go.Proofs.YtgcckfaljfkkhaaDoor.Hot
