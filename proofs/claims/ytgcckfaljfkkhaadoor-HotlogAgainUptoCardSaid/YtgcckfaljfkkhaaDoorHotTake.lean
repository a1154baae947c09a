/- The hot disk's 'take': a place is taken into use, if none of its sectors is. -/
import Derived.Test.YtgcckfaljfkkhaaDoorHotPlace
import Derived.Test.YtgcckfaljfkkhaaDoorFold2
namespace Go.Proofs.YtgcckfaljfkkhaaDoor.Hot
open Go Go.RowKit Mem Pl
theorem HotB.setSeg {w : World} {H : Nat → Prop} {h a dev : Nat} {segs : List Nat} {used : List Pc} {U : Value} {g n c : Nat} (x : HotB w H h a dev segs used (.slice (some ⟨g, 0, none⟩) n c) U) {i : Nat} (hi : i < segs.length) (s : Nat) :
    HotB (w.setCell ⟨g, i, none⟩ (u16V s)) H h a dev (segs.set i s) used (.slice (some ⟨g, 0, none⟩) n c) U := by
  obtain ⟨g', c', cur, e, hf, hh, _⟩ := x.segs.form (by omega)
  injection e with e1 e2 e3
  injection e1 with e1
  injection e1 with e1
  subst e1 e2 e3
  have hne : g ≠ h := by
    rintro rfl
    have := x.blk
    unfold Blk at this
    rw [hh] at this
    injection this with this
    injection this with _ this
    exact absurd this (by decide)
  refine ⟨x.blk.far (p := ⟨g, i, none⟩) (fun e => hne e.symm) _, x.own, ?_, x.used.far (p := ⟨g, i, none⟩) hh (by decide) _⟩
  have := x.segs.set i (u16V s)
  rw [List.length_set, List.map_set]
  exact this
theorem HotB.push {w w' : World} {H : Nat → Prop} {h a dev : Nat} {segs : List Nat} {used : List Pc} {S U U' : Value} {row : Option Nat} {p : Pc} (x : HotB w H h a dev segs used S U) (hg : w.grownBy w' row)
    (hr : row = none ∨ ∃ g cs, row = some g ∧ H g ∧ w.heap[g]? = some (Obj.cells cs 36 (0, 0))) (hv : Vec w' (Grow H w w') 36 4 U' (used.length + 1) (used.flatMap (pcCells dev) ++ pcCells dev p)) :
    HotAt (w'.setCell ⟨h, 3, none⟩ U') (Grow H w w') h a dev segs (used ++ [p]) ∧ Blk w' h 73 #[.pointer (some ⟨a, 0, none⟩), .int .i64 (dev : Int), S, U] ∧ Mods w.heap.size H w (w'.setCell ⟨h, 3, none⟩ U') := by
  have hne : ∀ (g : Nat) (t : TypeId) (cs : Array Value), t ≠ 36 → w.heap[g]? = some (Obj.cells cs t (0, 0)) → some g ≠ row := fun g t cs ht hh e => by
    rcases hr with rfl | ⟨g', cs', rfl, _, hh'⟩
    · cases e
    · injection e with e
      subst e
      rw [hh] at hh'
      injection hh' with hh'
      injection hh' with _ hh'
      exact ht hh'
  have hb : Blk w' h 73 #[.pointer (some ⟨a, 0, none⟩), .int .i64 (dev : Int), S, U] := x.blk.grown hg (hne h _ _ (by decide) x.blk)
  have hS := x.segs.heap (w' := w') fun g cs hh => (hg.block g (Array.getElem?_eq_some_iff.1 hh).1 (hne g _ _ (by decide) hh)).trans hh
  refine ⟨⟨S, U', by simpa using hb.set_ 3 U', .inl x.own, ?_, ?_⟩, hb, ?_⟩
  · exact (hS.far (p := ⟨h, 3, none⟩) hb (by decide) U').mono fun g _ hg => .inl hg
  · have := hv.far (p := ⟨h, 3, none⟩) hb (by decide) U'
    rw [List.flatMap_append, List.length_append]
    simpa using this
  · refine ((Mods.refl w.heap.size H w).grown hg (Nat.le_refl _) fun g e => ?_).setCell (.inl x.own) _
    rcases hr with rfl | ⟨g', cs', rfl, hf, _⟩
    · cases e
    · injection e with e
      subst e
      exact .inl hf
theorem pc_one (dev : Nat) (x : Pc) : ∀ u ∈ pcCells dev x, u.oneCell' = true := fun u hu => by
  simp [pcCells] at hu
  rcases hu with rfl | rfl | rfl | rfl <;> rfl
set_option maxRecDepth 100000 in
set_option maxHeartbeats 4000000 in
theorem take_any {w : World} {H : Nat → Prop} {h a dev : Nat} {segs : List Nat} {used : List Pc} {S U : Value} (x : HotB w H h a dev segs used S U) (p : Pc) (hp : okP segs.length p) (hp1 : p.1 < 1000000000) (s : Nat) (hs : segs[p.1 / 16]? = some s) (hsl : s < 65536) (hul : used.length ≤ 1000000000) :
    Calls Tryd.prog 30 #[.pointer (some ⟨h, 0, none⟩), .agg #[.int .i64 (dev : Int), .int .i64 (p.1 : Int), .int .i64 (p.2 : Int), .bool false]] w fun e w' =>
      (s &&& maskM p ≠ 0 ∧ e = .returned (.bool false) ∧ Below w.heap.size w w') ∨ (s &&& maskM p = 0 ∧ e = .returned (.bool true) ∧ HotAt w' (Grow H w w') h a dev (segs.set (p.1 / 16) (s ||| maskM p)) (used ++ [p]) ∧ Mods w.heap.size H w w') := by
  have hmk := mask_lt hp
  have hand := u16_and_nat s (maskM p) hsl hmk
  have hor := u16_or_nat s (maskM p) hsl hmk
  have HP := Lib.hid hp
  have HX := Lib.hid x
  obtain ⟨gS, cS, rfl, hsc, hHS, hsz⟩ := x.seg hs
  have hidx : (p.1 / 16 : Nat) < segs.length := (List.getElem?_eq_some_iff.1 hs).1
  have hidxI : ((p.1 : Int) / 16) < (segs.length : Int) := by omega
  have hidx0 : 0 ≤ (p.1 : Int) / 16 := by omega
  have hwr : IntKind.i64.wrap ((p.1 : Int) / 16) = (p.1 : Int) / 16 := IntWalk.i64_in _ (by omega)
  have hb1 : Below w.heap.size w (w.alloc (.cells #[.int .i64 (dev : Int), .int .i64 (p.1 : Int), .int .i64 (p.2 : Int), .bool false] 36)) := below_al' _
  have HB1 := Lib.hid hb1
  have hx1 := x.below hb1
  have hk1 := Blk.new w 36 #[.int .i64 (dev : Int), .int .i64 (p.1 : Int), .int .i64 (p.2 : Int), .bool false]
  have HX1 := Lib.hid hx1
  have HK1 := Lib.hid hk1
  have c2 := x.c2
  have hlt := x.blk.lt
  clear hx1 hk1 hb1 x
  go_enter Tryd.func30, Tryd.ntmps30
  go_wp2_with fail
  go_quiet (fail)
  go_wp2_with fail
  have hd1 : Below w.heap.size w ((w.alloc (.cells #[.int .i64 (dev : Int), .int .i64 (p.1 : Int), .int .i64 (p.2 : Int), .bool false] 36)).drewN nq) := below_drewN HB1.out nq
  have hxq := HX1.out.below (below_drewN (Below.refl _ _) nq)
  have hkq : Blk ((w.alloc (.cells #[.int .i64 (dev : Int), .int .i64 (p.1 : Int), .int .i64 (p.2 : Int), .bool false] 36)).drewN nq) w.heap.size 36 #[.int .i64 (dev : Int), .int .i64 (p.1 : Int), .int .i64 (p.2 : Int), .bool false] := HK1.out
  have hltb := hkq.lt
  clear HX1 HK1 HB1 hsc hsz c2 hlt
  generalize (w.alloc (.cells #[.int .i64 (dev : Int), .int .i64 (p.1 : Int), .int .i64 (p.2 : Int), .bool false] 36)).drewN nq = w1 at *
  have HB1 := Lib.hid hd1
  have HX1 := Lib.hid hxq
  have HK1 := Lib.hid hkq
  obtain ⟨g', c', e1, hsc, hHS, hsz⟩ := hxq.seg hs
  injection e1 with e1 _ e2
  injection e1 with e1
  injection e1 with e1
  subst e1 e2
  have k0 := (hkq.cell 0).trans (show _ = some (.int .i64 (dev : Int)) from rfl)
  have k1 := (hkq.cell 1).trans (show _ = some (.int .i64 (p.1 : Int)) from rfl)
  have k2 := (hkq.cell 2).trans (show _ = some (.int .i64 (p.2 : Int)) from rfl)
  have k3 := (hkq.cell 3).trans (show _ = some (.bool false) from rfl)
  clear hd1 hxq hkq
  have HM := Lib.hid (fun w' : World => mask_any w' (.int .i64 (dev : Int)) (.bool false) p _ HP.out)
  have HSZ := Lib.hid hsz
  unfold u16V at hsc
  refine Ord.region_ord [4] [0, 1, 2, 3, 4, 5, 6] (by kernel_rfl) (by kernel_rfl) (by kernel_rfl) (by kernel_rfl) (Ord.ord_run [0, 1, 2, 3] [_, _, _, _] rfl (by kernel_rfl) ?_)
  go_wp2_with fail
  refine Ord.nx_ord (Ord.ord_one rfl ?_)
  go_wp2_with fail
  refine (HM.out _).mono ?_
  rintro e w2 ⟨rfl, hb2⟩
  have HB2 := Lib.hid hb2
  have hb2' : Below w1.heap.size w1 w2 := Below.trans (show Below w1.heap.size w1 w1.drew from below_drewN (Below.refl _ _) 1) (show Below w1.heap.size w1.drew w2 from hb2)
  have HC2 := Lib.hid hb2'
  clear hb2 hb2'
  unfold u16V
  go_wp2_with fail
  refine Ord.nx_and HB2.out (Ord.ord_all [_, _] rfl (by kernel_rfl) ?_)
  go_wp2_with fail
  refine Ord.nx_end ?_
  by_cases hz : s &&& maskM p = 0
  · have hzb : (((s &&& maskM p : Nat) : Int) != 0) = false := by rw [hz]; rfl
    have HZ := Lib.hid hz
    have HX2 := Lib.hid (HX1.out.below HC2.out)
    have HK2 := Lib.hid (HK1.out.below_ HC2.out)
    have HW2 := Lib.hid (HB1.out.trans (HC2.out.mono HB1.out.size))
    obtain ⟨g', c', e1, hsc2, _, hsz2⟩ := HX2.out.seg hs
    injection e1 with e1 _ e2
    injection e1 with e1
    injection e1 with e1
    subst e1 e2
    have j0 := (HK2.out.cell 0).trans (show _ = some (.int .i64 (dev : Int)) from rfl)
    have j1 := (HK2.out.cell 1).trans (show _ = some (.int .i64 (p.1 : Int)) from rfl)
    have j2 := (HK2.out.cell 2).trans (show _ = some (.int .i64 (p.2 : Int)) from rfl)
    have j3 := (HK2.out.cell 3).trans (show _ = some (.bool false) from rfl)
    have hlt2 : w.heap.size < w2.heap.size := HK2.out.lt
    unfold u16V at hsc2
    clear hsc hsz k0 k1 k2 k3 HX1 HK1 hltb hz
    go_wp2_with fail
    refine Ord.region_ord [4] [0, 1, 2, 3, 4, 5, 6, 7] (by kernel_rfl) (by kernel_rfl) (by kernel_rfl) (by kernel_rfl) (Ord.ord_run [0, 1, 2, 3] [_, _, _, _] rfl (by kernel_rfl) ?_)
    go_wp2_with fail
    refine Ord.nx_ord (Ord.ord_one rfl ?_)
    go_wp2_with fail
    refine (HM.out _).mono ?_
    rintro e w3 ⟨rfl, hb3⟩
    have HB3 := Lib.hid hb3
    have hb3' : Below w2.heap.size w2 w3 := Below.trans (show Below w2.heap.size w2 w2.drew from below_drewN (Below.refl _ _) 1) (show Below w2.heap.size w2.drew w3 from hb3)
    have HC3 := Lib.hid hb3'
    have HX3 := Lib.hid (HX2.out.below hb3')
    have HK3 := Lib.hid (HK2.out.below_ hb3')
    have HW3 := Lib.hid (HW2.out.trans (hb3'.mono HW2.out.size))
    obtain ⟨g', c', e1, hsc3, hHg, hsz3⟩ := HX3.out.seg hs
    injection e1 with e1 _ e2
    injection e1 with e1
    injection e1 with e1
    subst e1 e2
    clear hb3 hb3' hsc2 hsz2 j0 j1 j2 j3
    have HX4 := Lib.hid (HX3.out.setSeg hidx (s ||| maskM p))
    have hne : w.heap.size ≠ gS := fun e => by
      have hk := HK3.out
      obtain ⟨_, _, cur, e4, _, hh, _⟩ := HX3.out.segs.form (by omega)
      injection e4 with e5
      injection e5 with e5
      injection e5 with e5
      subst e5
      unfold Blk at hk
      rw [e, hh] at hk
      injection hk with hk
      injection hk with _ hk
      exact absurd hk (by decide)
    have HK4 := Lib.hid (HK3.out.far (p := ⟨gS, p.1 / 16, none⟩) hne (u16V (s ||| maskM p)))
    have HM4 := Lib.hid ((Mods.of_below (F := H) HW3.out).setCell (p := ⟨gS, p.1 / 16, none⟩) (.inl hHg) (u16V (s ||| maskM p)))
    unfold u16V at hsc3 HX4 HK4 HM4 ⊢
    go_wp2_with fail
    refine Ord.nx_and HB3.out (Ord.ord_all [_, _, _] rfl (by kernel_rfl) ?_)
    go_wp2_with fail
    refine Ord.nx_end ?_
    go_wp2_with fail
    have hsz4 : (w3.setCell ⟨gS, p.1 / 16, none⟩ (.int .u16 ((s ||| maskM p : Nat) : Int))).heap.size = w3.heap.size := by simp [World.setCell]
    have hw34 : w.heap.size ≤ (w3.setCell ⟨gS, p.1 / 16, none⟩ (.int .u16 ((s ||| maskM p : Nat) : Int))).heap.size := by rw [hsz4]; exact HW3.out.size
    clear hsz4 hsc3 hsz3 HX3 HK3 hne HC3 HB3 HW3 HX2 HK2 HC2 HB2 HM hlt2 hand hor
    generalize w3.setCell ⟨gS, p.1 / 16, none⟩ (.int .u16 ((s ||| maskM p : Nat) : Int)) = w4 at *
    have d0 := (HK4.out.cell 0).trans (show _ = some (.int .i64 (dev : Int)) from rfl)
    have d1 := (HK4.out.cell 1).trans (show _ = some (.int .i64 (p.1 : Int)) from rfl)
    have d2 := (HK4.out.cell 2).trans (show _ = some (.int .i64 (p.2 : Int)) from rfl)
    have d3 := (HK4.out.cell 3).trans (show _ = some (.bool false) from rfl)
    have e3 := HX4.out.c3
    have hlh := HX4.out.blk.lt
    have hlk := HK4.out.lt
    have hba4 : Below w4.heap.size w4 (w4.drew.alloc (.cells #[.int .i64 (dev : Int), .int .i64 (p.1 : Int), .int .i64 (p.2 : Int), .bool false] 36)) := Below.trans (show Below w4.heap.size w4 w4.drew from below_drewN (Below.refl _ _) 1) (show Below w4.heap.size w4.drew _ from below_al' (w := w4.drew) _)
    have HBA := Lib.hid hba4
    have HX5 := Lib.hid (HX4.out.below hba4)
    have hsz5 : (w4.drew.alloc (.cells #[.int .i64 (dev : Int), .int .i64 (p.1 : Int), .int .i64 (p.2 : Int), .bool false] 36)).heap.size = w4.heap.size + 1 := by
      show (w4.alloc (.cells #[.int .i64 (dev : Int), .int .i64 (p.1 : Int), .int .i64 (p.2 : Int), .bool false] 36)).heap.size = _
      simp
    clear hba4
    obtain ⟨AU, cU, rfl⟩ := HX4.out.used.shape
    refine Ord.region_ord [] [0, 1, 2, 3, 4, 5, 6, 7, 8, 9, 10] (by kernel_rfl) (by kernel_rfl) (by kernel_rfl) (by kernel_rfl) (Ord.ord_all [_, _, _, _, _, _, _, _, _, _, _] rfl (by kernel_rfl) ?_)
    go_wp2_with
      (refine wpList_buildSlice_row rfl 22 36 (.tmp 33) rfl placeTy (pcCells dev p) rfl (show _ = 1 * 4 from rfl) (by omega) w4.heap.size rfl ?_
       go_wp2_with
         (refine wpList_append_vec rfl (.tmp 32) (.tmp 34) _ rfl 32 _ placeTy rfl HX5.out.used ⟨w4.heap.size, 0, none⟩ 1 1 (pcCells dev p) rfl (show _ = 1 * 4 from rfl) (blk_news (Blk.new w4.drew _ _)) (pc_one dev p) ?c1 ?c2 ?_
          case c1 => unfold maxLen; omega
          case c2 => omega
          intro W4 w5 row hv5 hg5 hr5
          obtain ⟨A5, c5, rfl⟩ := hv5.shape
          obtain ⟨hh1, hh2, hh3⟩ := HX5.out.push hg5 hr5 hv5
          have h5 := (hh2.cell 3).trans (show _ = some (.slice AU used.length cU) from rfl)
          have z5 := hh2.frozen 3
          have HH1 := Lib.hid hh1
          have HH3 := Lib.hid hh3
          clear hv5 hg5 hr5 hh1 hh2 hh3 d0 d1 d2 d3 e3))
    refine Ord.nx_end ?_
    go_wp2_with fail
    go_ret
    refine .inr ⟨HZ.out, rfl, HH1.out.mono fun g hlt hg => ?_, ?_⟩
    · rcases hg with hg | ⟨h6, h7⟩
      · exact .inl hg
      · refine .inr ⟨?_, hlt⟩
        rw [hsz5] at h6
        omega
    · exact (HM4.out.then_below HBA.out hw34).trans (HH3.out.mono (by rw [hsz5]; omega) fun g _ hg => hg)
  · have hzb : (((s &&& maskM p : Nat) : Int) != 0) = true := by rw [bne_iff_ne]; omega
    have HZ := Lib.hid hz
    go_wp2_with fail
    go_ret
    exact .inl ⟨HZ.out, rfl, HB1.out.trans (HC2.out.mono HB1.out.size)⟩
end Go.Proofs.YtgcckfaljfkkhaaDoor.Hot
