/- The reference's 'Fit'. -/
import Derived.Test.YtgcckfaljfkkhaaDoorFold17
import Derived.Deep.LoopGhost
import Derived.Deep.CutRange
namespace Go.Proofs.YtgcckfaljfkkhaaDoor.Hot
open Go Go.RowKit Mem Pl
/-- Free: a place of the disk that meets none. -/
theorem free1_meet {used : List Pc} {dev nseg m k : Nat} (hok : ∀ u ∈ used, okP nseg u) : Free1 used nseg m k ↔ placeM dev nseg (dev : Int) (k : Int) (m : Int) = true ∧ ∀ u ∈ used, meetM u (k, m) = false := by
  unfold Free1 placeM
  rw [decide_eq_true_iff]
  constructor
  · rintro ⟨⟨h1, h2, h3, h4⟩, h5⟩
    simp only at h1 h2 h3 h4
    refine ⟨⟨rfl, by omega, by omega, by omega, by omega, by omega⟩, fun u hu => decide_eq_false ?_⟩
    rintro ⟨h6, h7⟩
    simp only at h6 h7
    have h8 := (hok u hu).1
    rcases Nat.le_total u.1 k with h | h
    · exact h5 k (Nat.le_refl _) (by omega) ⟨u, hu, h, h7⟩
    · exact h5 u.1 h h6 ⟨u, hu, Nat.le_refl _, by omega⟩
  · rintro ⟨⟨_, h1, h2, _, h3, h4⟩, h5⟩
    refine ⟨⟨by show 1 ≤ m; omega, by show m ≤ 16; omega, by show k / 16 < nseg; omega, by show k % 16 + m ≤ 16; omega⟩, fun q hq1 hq2 ⟨u, hu, hu1, hu2⟩ => ?_⟩
    have := of_decide_eq_false (h5 u hu)
    exact this ⟨by show u.1 < k + m; omega, by show k < u.1 + u.2; omega⟩
/-- The search, from place to place. -/
def SrchR (w : World) (gR gX dev N m : Nat) (used : List Pc) (g : Nat) (wr : World) : Prop :=
  ∃ k : Nat, k + g = N ∧ Below w.heap.size w wr ∧ Blk wr gX 36 #[.int .i64 (dev : Int), .int .i64 (k : Int), .int .i64 (m : Int), .bool false] ∧ Blk wr gR 36 #[.int .i64 0, .int .i64 0, .int .i64 0, .bool false] ∧ ∀ b, b < k → ¬ Free1 used (N / 16) m b
/-- Whether one in use is met. -/
def MeetR (w : World) (gR gX dev m k : Nat) (used : List Pc) (p : Bool) (fv jv : Value) (wr : World) : Prop :=
  ∃ (j : Nat) (f : Bool), j ≤ used.length ∧ jv = .int .i64 (j : Int) ∧ fv = .bool f ∧ Below w.heap.size w wr ∧ Blk wr gX 36 #[.int .i64 (dev : Int), .int .i64 (k : Int), .int .i64 (m : Int), .bool false] ∧ Blk wr gR 36 #[.int .i64 0, .int .i64 0, .int .i64 0, .bool false] ∧
    (f = true → p = true ∧ ∀ i u, i < j → used[i]? = some u → meetM u (k, m) = false) ∧ (f = false → ¬ (p = true ∧ ∀ u ∈ used, meetM u (k, m) = false))
theorem srch_next {used : List Pc} {dev nseg m k : Nat} (hok : ∀ u ∈ used, okP nseg u) (hpre : ∀ b, b < k → ¬ Free1 used nseg m b) (hn : ¬ (placeM dev nseg (dev : Int) (k : Int) (m : Int) = true ∧ ∀ u ∈ used, meetM u (k, m) = false)) : ∀ b, b < k + 1 → ¬ Free1 used nseg m b := fun b hb hf => by
  rcases Nat.lt_or_ge b k with h | h
  · exact hpre b h hf
  · obtain rfl : b = k := by omega
    exact hn ((free1_meet hok).1 hf)
theorem meetR_step {used : List Pc} {k m j : Nat} {u : Pc} {p : Bool} (hu : used[j]? = some u) (hpre : ∀ i u, i < j → used[i]? = some u → meetM u (k, m) = false) (hp : p = true) :
    ((!meetM u (k, m)) = true → p = true ∧ ∀ i u, i < j + 1 → used[i]? = some u → meetM u (k, m) = false) ∧ ((!meetM u (k, m)) = false → ¬ (p = true ∧ ∀ u ∈ used, meetM u (k, m) = false)) := by
  refine ⟨fun h => ⟨hp, fun i v hi hv => ?_⟩, fun h h2 => ?_⟩
  · rcases Nat.lt_or_ge i j with h1 | h1
    · exact hpre i v h1 hv
    · obtain rfl : i = j := by omega
      rw [hu] at hv
      injection hv with hv
      subst hv
      simpa using h
  · have := h2.2 u (List.mem_of_getElem? hu)
    rw [this] at h
    cases h
set_option maxRecDepth 100000 in
set_option maxHeartbeats 8000000 in
theorem rfit_any {w : World} {G : Nat → Prop} {r dev N : Nat} {used : List Pc} {bytes : List (List UInt8)} {U V : Value} {vs : List Value} (x : RHotB w G r dev N used bytes U V vs) (hN : N ≤ 4096) (hok : ∀ u ∈ used, okP (N / 16) u) (hul : used.length ≤ 1000000000) (n : Nat) (hn : n ≤ 4611686018427387904) :
    Calls Tryd.prog 14 #[.pointer (some ⟨r, 0, none⟩), .int .i64 (n : Int)] w fun e w' => ∃ k, FitIs used (N / 16) (costM n) k ∧ e = .returned (fitV dev (costM n) k) ∧ Below w.heap.size w w' := by
  have HX := Lib.hid x
  have HOK := Lib.hid hok
  obtain ⟨m, hm⟩ : ∃ m, costM n = m := ⟨_, rfl⟩
  have hmb : m ≤ 4611686018427387905 := by rw [← hm]; unfold costM; omega
  have HCO := Lib.hid (fun w' => rcost_any w' n hn)
  rw [hm] at HCO ⊢
  clear x hok hm
  go_enter Tryd.func14, Tryd.ntmps14
  have hb1 : Below w.heap.size w (w.alloc (.cells #[.int .i64 0, .int .i64 0, .int .i64 0, .bool false] 36)) := below_al' _
  have HB1 := Lib.hid hb1
  have HR1 := Lib.hid (Blk.new w 36 #[.int .i64 0, .int .i64 0, .int .i64 0, .bool false])
  have HX1 := Lib.hid (HX.out.below hb1)
  have HS1 := Lib.hid (show (w.alloc (.cells #[.int .i64 0, .int .i64 0, .int .i64 0, .bool false] 36)).heap.size = w.heap.size + 1 by simp)
  clear hb1
  go_upto_region 1 with fail
  generalize w.alloc (.cells #[.int .i64 0, .int .i64 0, .int .i64 0, .bool false] 36) = w1 at *
  go_cut [6] from 9 to 15 (fun pv wc => pv = .pointer (some ⟨w1.heap.size, 0, none⟩) ∧ Blk wc w1.heap.size 36 #[.int .i64 (dev : Int), .int .i64 0, .int .i64 (m : Int), .bool false] ∧ Below w1.heap.size w1 wc)
  case first =>
    have c0 := HX1.out.c0
    have hlr := HX1.out.blk.lt
    refine Ord.tb_start [5] (by kernel_rfl) (Ord.tb_pre [0, 1, 2, 3, 4] [_, _, _, _, _] (k := 4) (by kernel_rfl) rfl rfl (by kernel_rfl) ?_)
    go_wp2_with fail
    refine Ord.nx_tb (Ord.tb_fork (i := 5) (j := 7) (k := 3) (by kernel_rfl) rfl rfl ?_ ?_)
    · go_wp2_with fail
      refine (HCO.out _).mono ?_
      rintro e _ ⟨rfl, rfl⟩
      go_wp2_with fail
      refine Ord.nx_tb2 (Below.refl _ _) (Ord.tb_ords [6, 7, 8] (by kernel_rfl) rfl (by kernel_rfl) (Ord.ord_all [_, _, _] rfl (by kernel_rfl) ?_))
      go_wp2_with fail
      refine Ord.nx_end ?_
      go_wp2_with fail
      go_meet
      case rel => exact ⟨rfl, (Blk.new w1 _ _).drew, below_drewN (below_al' _) 1⟩
    · go_wp2_with fail
      refine Ord.nx_tb2 (below_al' _) (Ord.tb_ords [5, 6, 8] (by kernel_rfl) rfl (by kernel_rfl) (Ord.ord_one rfl ?_))
      go_wp2_with fail
      refine (HCO.out _).mono ?_
      rintro e _ ⟨rfl, rfl⟩
      go_wp2_with fail
      refine Ord.nx_and (Below.refl _ _) (Ord.ord_all [_, _] rfl (by kernel_rfl) ?_)
      go_wp2_with fail
      refine Ord.nx_end ?_
      go_wp2_with fail
      go_meet
      case rel => exact ⟨rfl, (Blk.new w1 _ _).drew, below_drewN (below_al' _) 1⟩
  case rest =>
    obtain ⟨rfl, hkx, hb2⟩ := hcut
    have HKX := Lib.hid hkx
    have HB2 := Lib.hid (HB1.out.trans (hb2.mono HB1.out.size))
    have HX2 := Lib.hid (HX.out.below HB2.out)
    have HR2 := Lib.hid (HR1.out.below_ hb2)
    have hle1 : w.heap.size < w1.heap.size := by rw [HS1.out]; omega
    have hlx := hkx.lt
    have kz1 := hkx.frozen 1
    have kc1 := (hkx.cell 1).trans (show _ = some (.int .i64 0) from rfl)
    have HKX0 := Lib.hid (show Blk (wc.setCell ⟨w1.heap.size, 1, none⟩ (.int .i64 0)) w1.heap.size 36 #[.int .i64 (dev : Int), .int .i64 0, .int .i64 (m : Int), .bool false] from hkx.set_ 1 (.int .i64 0))
    have HB20 := Lib.hid (HB2.out.setCell (p := ⟨w1.heap.size, 1, none⟩) (Nat.le_of_lt hle1) (.int .i64 0))
    have HR20 := Lib.hid (HR2.out.far (p := ⟨w1.heap.size, 1, none⟩) (by show w.heap.size ≠ w1.heap.size; omega) (.int .i64 0))
    clear hkx hb2 HX1 HB1 HR1 HKX HB2 HX2 HR2
    go_wp2_with fail
    clear kz1 kc1 hlx
    go_loopg [] N (fun g wr => SrchR w w.heap.size w1.heap.size dev N m used g wr)
    case atStart => exact ⟨0, by omega, HB20.out, HKX0.out, HR20.out, fun b hb => by omega⟩
    case round =>
      obtain ⟨k, hk, hb, hkx, hkr, hpre⟩ := hrel
      have HB := Lib.hid hb
      have HKX := Lib.hid hkx
      have HKR := Lib.hid hkr
      have HPRE := Lib.hid hpre
      have HGK := Lib.hid hk
      have hlx := hkx.lt
      have x' := HX.out.below hb
      have HXr := Lib.hid x'
      have c1 := x'.c1
      have hlr := x'.blk.lt
      have k1 := (hkx.cell 1).trans (show _ = some (.int .i64 (k : Int)) from rfl)
      have HX0 := HX
      clear hb hpre x' HX HB20 HKX0 HR20
      by_cases hkN : k < N
      · have hkI : (k : Int) < (N : Int) := by omega
        clear hkx hkr hk
        go_wp2_with fail
        go_quiet (fail)
        have k0 := (HKX.out.cell 0).trans (show _ = some (.int .i64 (dev : Int)) from rfl)
        have k2 := (HKX.out.cell 2).trans (show _ = some (.int .i64 (m : Int)) from rfl)
        have k3 := (HKX.out.cell 3).trans (show _ = some (.bool false) from rfl)
        go_wp2_with fail
        refine (rplace_any (HXr.out.below (below_drewN (Below.refl _ _) nq)) hN (dev : Int) (k : Int) (m : Int) (.bool false) (by omega) (by omega)).mono ?_
        rintro e w3 ⟨rfl, hb3⟩
        have hb3' := below_drewN (Below.refl wr.heap.size wr) nq |>.trans hb3
        have HB3 := Lib.hid (HB.out.trans (hb3'.mono HB.out.size))
        have HKX3 := Lib.hid (HKX.out.below_ hb3')
        have HKR3 := Lib.hid (HKR.out.below_ hb3')
        obtain ⟨p, hp⟩ : ∃ p, placeM dev (N / 16) (dev : Int) (k : Int) (m : Int) = p := ⟨_, rfl⟩
        have HP := Lib.hid hp
        rw [hp]
        clear hb3 hb3' HKX HKR HXr c1 k0 k1 k2 k3 hp HB hlx hlr
        go_wp2_with fail
        go_loopw [7, 8] (fun fv jv wx => MeetR w w.heap.size w1.heap.size dev m k used p fv jv wx) (fun _ jv _ => used.length - (intOf jv).toNat)
        case atStart => exact ⟨0, p, by omega, rfl, rfl, HB3.out, HKX3.out, HKR3.out, fun h => ⟨h, fun i u hi => by omega⟩, fun h h2 => by rw [h] at h2; cases h2.1⟩
        case round =>
          obtain ⟨j, f, hj, rfl, rfl, hb, hkx, hkr, hft, hff⟩ := hrel
          have HB := Lib.hid hb
          have HKX := Lib.hid hkx
          have HKR := Lib.hid hkr
          have HFT := Lib.hid hft
          have HFF := Lib.hid hff
          have x' := HX0.out.below hb
          have HXr := Lib.hid x'
          have c2 := x'.c2
          have hlr := x'.blk.lt
          have hlx := hkx.lt
          have k0 := (hkx.cell 0).trans (show _ = some (.int .i64 (dev : Int)) from rfl)
          have k1 := (hkx.cell 1).trans (show _ = some (.int .i64 (k : Int)) from rfl)
          have k2 := (hkx.cell 2).trans (show _ = some (.int .i64 (m : Int)) from rfl)
          have k3 := (hkx.cell 3).trans (show _ = some (.bool false) from rfl)
          obtain ⟨AU, cU, hUe⟩ := x'.uv.shape
          clear hb hkx hkr hft hff x'
          by_cases hlt' : j < used.length
          · have hjI : decide ((j : Int) < (used.length : Int)) = true := decide_eq_true (by omega)
            cases f with
            | true =>
              obtain ⟨hp1, hpre1⟩ := HFT.out rfl
              have HPRE1 := Lib.hid hpre1
              have hm16 : m ≤ 16 := by
                have h := HP.out
                rw [hp1] at h
                have := of_decide_eq_true h
                omega
              obtain ⟨u, hu⟩ : ∃ u, used[j]? = some u := ⟨_, List.getElem?_eq_getElem hlt'⟩
              obtain ⟨g, c, hU, e0, e1, e2, e3⟩ := used_cells HXr.out.uv hu
              have huk := HOK.out u (List.mem_of_getElem? hu)
              have hu1 : u.1 < 1000000000 := by have := huk.2.2.1; omega
              have hu2 : u.2 ≤ 16 := huk.2.1
              rw [hU] at c2
              have HU := Lib.hid hu
              have HP1 := Lib.hid hp1
              clear hU hUe hu huk hpre1 hp1
              go_wp2_with fail
              clear HFT HFF
              have HME := Lib.hid (fun W => meet_any W u (k, m) (.int .i64 (dev : Int)) (.int .i64 (dev : Int)) (.bool false) (.bool false) hu1 hu2 (by show k < 1000000000; omega) hm16)
              refine Ord.region_ord [8] [0, 1, 2, 3, 4, 5, 6, 7, 8, 9, 10] (by kernel_rfl) (by kernel_rfl) (by kernel_rfl) (by kernel_rfl) (Ord.ord_run [0, 1, 2, 3, 4, 5, 6, 7] [_, _, _, _, _, _, _, _] rfl (by kernel_rfl) ?_)
              go_wp2_with fail
              refine Ord.nx_ord (Ord.ord_one rfl ?_)
              go_wp2_with fail
              refine (HME.out _).mono ?_
              rintro e w4 ⟨rfl, hb4⟩
              have HB4 := Lib.hid hb4
              clear hb4
              go_wp2_with fail
              refine Ord.nx_and HB4.out (Ord.ord_all [_, _] rfl (by kernel_rfl) ?_)
              go_wp2_with fail
              refine Ord.nx_end ?_
              go_wp2_with fail
              go_roundw
              case rel =>
                have hb5 : Below wr.heap.size wr w4 := (below_drewN (Below.refl wr.heap.size wr) 1).trans HB4.out
                exact ⟨j + 1, _, by omega, by simp, rfl, HB.out.trans (hb5.mono HB.out.size), HKX.out.below_ hb5, HKR.out.below_ hb5, meetR_step HU.out HPRE1.out HP1.out⟩
              case measure => simp [intOf]; omega
            | false =>
              rw [hUe] at c2
              clear hUe
              have HNX := Lib.hid (srch_next HOK.out HPRE.out fun h => HFF.out rfl ⟨HP.out.symm.trans h.1, h.2⟩)
              have kz1 := HKX.out.frozen 1
              have hwk : IntKind.i64.wrap ((k : Int) + 1) = (k : Int) + 1 := IntWalk.i64_in _ (by omega)
              go_wp2_with fail
              go_roundg (gk - 1)
              case measure => have := HGK.out; omega
              case rel => exact ⟨k + 1, by have := HGK.out; omega, HB.out.setCell (p := ⟨w1.heap.size, 1, none⟩) (Nat.le_of_lt hle1) _, HKX.out.set_ 1 (.int .i64 ((k : Int) + 1)), HKR.out.far (p := ⟨w1.heap.size, 1, none⟩) (by show w.heap.size ≠ w1.heap.size; omega) _, HNX.out⟩
          · have hjI : decide ((j : Int) < (used.length : Int)) = false := decide_eq_false (by omega)
            rw [hUe] at c2
            clear hUe
            cases f with
            | true =>
              obtain ⟨hp1, hpre1⟩ := HFT.out rfl
              have HF := Lib.hid (show FitIs used (N / 16) m (some k) from ⟨(free1_meet HOK.out).2 ⟨HP.out.trans hp1, fun u hu => by
                obtain ⟨i, hi⟩ := List.getElem?_of_mem hu
                exact hpre1 i u (by have := (List.getElem?_eq_some_iff.1 hi).1; omega) hi⟩, HPRE.out⟩)
              clear HFT HFF hp1 hpre1
              go_wp2_with
                (refine wpList_store_all rfl 36 (.tmp 4) (.tmp 54) rfl w.heap.size 36 [.int .i64 0, .int .i64 0, .int .i64 0, .bool false] [.int .i64 (dev : Int), .int .i64 (k : Int), .int .i64 (m : Int), .bool false] rfl rfl HKR.out rfl (by kernel_rfl) (pc1_one _ _ _) ?_
                 intro w2 hb2 hg2 hz2
                 have HX2 := Lib.hid hb2
                 have HG2 := Lib.hid hg2
                 have HZ2 := Lib.hid hz2
                 clear hb2 hg2 hz2)
              have hl := load_pc HX2.out
              refine bodyPost_ret (v := .tuple #[.agg #[.int .i64 (dev : Int), .int .i64 (k : Int), .int .i64 (m : Int), .bool false], .bool true]) ?_ rfl ⟨_, HF.out, rfl, fit_below HB.out HG2.out HZ2.out⟩
              simp [results, Tryd.results14, asAddr, hl]
            | false =>
              have HNX := Lib.hid (srch_next HOK.out HPRE.out fun h => HFF.out rfl ⟨HP.out.symm.trans h.1, h.2⟩)
              have kz1 := HKX.out.frozen 1
              have hwk : IntKind.i64.wrap ((k : Int) + 1) = (k : Int) + 1 := IntWalk.i64_in _ (by omega)
              go_wp2_with fail
              go_roundg (gk - 1)
              case measure => have := HGK.out; omega
              case rel => exact ⟨k + 1, by have := HGK.out; omega, HB.out.setCell (p := ⟨w1.heap.size, 1, none⟩) (Nat.le_of_lt hle1) _, HKX.out.set_ 1 (.int .i64 ((k : Int) + 1)), HKR.out.far (p := ⟨w1.heap.size, 1, none⟩) (by show w.heap.size ≠ w1.heap.size; omega) _, HNX.out⟩
      · have hkI : ¬ (k : Int) < (N : Int) := by omega
        obtain rfl : k = N := by omega
        clear hkx hkr hk
        go_wp2_with fail
        go_quiet (fail)
        have HF := Lib.hid (show FitIs used (k / 16) m none from fun b hf => HPRE.out b (by have h1 := hf.1.2.2.1; have h2 := hf.1.2.2.2; have h3 := hf.1.1; simp only at h1 h2 h3; omega) hf)
        go_wp2_with
          (refine wpList_store_all rfl 36 (.tmp 4) (.tmp 55) rfl w.heap.size 36 [.int .i64 0, .int .i64 0, .int .i64 0, .bool false] [.int .i64 0, .int .i64 0, .int .i64 0, .bool false] rfl rfl (show Blk (wr.drewN nq) _ _ _ from HKR.out) rfl (by kernel_rfl) (pc0_one) ?_
           intro w2 hb2 hg2 hz2
           have HX2 := Lib.hid hb2
           have HG2 := Lib.hid hg2
           have HZ2 := Lib.hid hz2
           clear hb2 hg2 hz2)
        have hl := load_pc HX2.out
        refine bodyPost_ret (v := .tuple #[.agg #[.int .i64 0, .int .i64 0, .int .i64 0, .bool false], .bool false]) ?_ rfl ⟨none, HF.out, rfl, fit_below (below_drewN HB.out nq) HG2.out HZ2.out⟩
        simp [results, Tryd.results14, asAddr, hl]
end Go.Proofs.YtgcckfaljfkkhaaDoor.Hot
