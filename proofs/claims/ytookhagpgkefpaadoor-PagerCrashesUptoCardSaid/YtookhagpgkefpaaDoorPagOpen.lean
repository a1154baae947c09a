/- The pager's 'Open'. -/
import Derived.Test.YtookhagpgkefpaaDoorFold12
import Derived.Test.YtookhagpgkefpaaDoorFold10
namespace Go.Proofs.YtookhagpgkefpaaDoor.Pag
open Go Go.RowKit Mem Pl Disk Crc _root_.Go.Proofs.YtookhagpgkefpaaDoor.Frame
theorem run_build0 (w : World) (a dev q : Nat) : (Instr.build 82 #[(0, .pointer (some ⟨a, 0, none⟩)), (1, .int .i64 (dev : Int)), (2, .int .i64 (q : Int))]).run Tryd.prog w = .ok (.agg (pgCells a dev (pg0 q)).toArray) w := by kernel_rfl
/-- What 'Open' answers. -/
def RetOp (w : World) (a dev : Nat) (r : Option PgM) (e : Ending) (w' : World) : Prop :=
  Below w.heap.size w w' ∧ ((r = none ∧ e = .returned (.tuple #[.pointer none, .int .i64 4])) ∨ ∃ g m, r = some m ∧ e = .returned (.tuple #[.pointer (some ⟨g, 0, none⟩), .int .i64 0]) ∧ w.heap.size ≤ g ∧ PgB w' g a dev m)
theorem open_x7 {w w7 : World} {g a dev : Nat} {m : PgM} (x : PgB w g a dev m) {use : List UInt8} (hu : use.length = 48) (h : Blk w7 g 82 ((pgCells a dev m).take 5 ++ use.map B8 ++ (pgCells a dev m).drop (5 + (use.map B8).length)).toArray) : PgB w7 g a dev { m with use := use } := by
  refine ⟨?_, hu, x.wl⟩
  rw [List.length_map, hu, pgCells_use a dev m use x.ul] at h
  exact h
theorem open_x8 {w w7 : World} {g a dev : Nat} {m : PgM} (x : PgB w g a dev m) {was : List UInt8} (hu : was.length = 48) (h : Blk w7 g 82 ((pgCells a dev m).take 53 ++ was.map B8 ++ (pgCells a dev m).drop (53 + (was.map B8).length)).toArray) : PgB w7 g a dev { m with was := was } := by
  refine ⟨?_, x.ul, hu⟩
  rw [List.length_map, hu, pgCells_was a dev m was x.ul x.wl] at h
  exact h
theorem open_b7 {g : Nat} {w w4 w7 : World} {u v : Value} (hb : Below w.heap.size w w4) (hg : w.heap.size ≤ g) (h : ((w4.setCell ⟨g, 3, none⟩ u).setCell ⟨g, 4, none⟩ v).drew.grownBy w7 (some g)) : Below w.heap.size w w7 :=
  (((((Mods.of_below (F := fun k => k = g) hb).setCell (.inl rfl) u).setCell (.inl rfl) v).drew).grown h (by have := hb.size; simp [World.setCell]; exact this) (fun k hk => by injection hk with hk; exact .inl hk.symm)).below fun k hk e => by omega
theorem open_b8 {g : Nat} {w w4 w7 : World} (hb : Below w.heap.size w w4) (hg : w.heap.size ≤ g) (h : w4.grownBy w7 (some g)) : Below w.heap.size w w7 :=
  ((Mods.of_below (F := fun k => k = g) hb).grown h hb.size (fun k hk => by injection hk with hk; exact .inl hk.symm)).below fun k hk e => by omega
theorem openM_bad {f : Nat → List UInt8} {q i : Nat} (h : useOk (opsM f q 2) i = false) (hi : i ≤ 384) : openM f q = none := by
  unfold openM
  rw [useOk_less h hi]
  rfl
theorem openM_root {f : Nat → List UInt8} {q : Nat} (h : rootOk (opsM f q 2) = false) : openM f q = none := by
  unfold openM
  rw [h]
  simp
theorem openM_good {f : Nat → List UInt8} {q : Nat} (h1 : useOk (opsM f q 2) 384 = true) (h2 : rootOk (opsM f q 2) = true) : openM f q = some { opsM f q 2 with was := (opsM f q 2).use } := by
  unfold openM
  rw [h1, h2]
  rfl
def OpR1 (w : World) (g a dev q : Nat) (f : Nat → List UInt8) (iv : Value) (wr : World) : Prop := ∃ i : Nat, i ≤ 2 ∧ iv = .int .i64 (i : Int) ∧ PgB wr g a dev (opsM f q i) ∧ Below w.heap.size w wr
def OpR2 (m : PgM) (w0 : World) (iv : Value) (wr : World) : Prop := ∃ i : Nat, i ≤ 384 ∧ iv = .int .i64 (i : Int) ∧ useOk m i = true ∧ wr = w0
theorem open_no {w : World} {F : Nat → Prop} {a : Nat} {pm : PM} (hp : PlantAt w F a pm) (hok : pm.Ok) (dev : Nat) (h0 : pagesM pm.disks (dev : Int) = 0) :
    Calls Tryd.prog 12 #[.pointer (some ⟨a, 0, none⟩), .int .i64 (dev : Int)] w fun e w' => e = .returned (.tuple #[.pointer none, .int .i64 1]) ∧ Below w.heap.size w w' := by
  have h1 := pagesOf_any hp hok (dev : Int)
  rw [h0] at h1
  have H1 := Lib.hid h1
  have hbd := fun W => run_build0 W a dev 0
  clear h1 hp hok h0
  go_enter Tryd.func12, Tryd.ntmps12
  go_wp2_with fail
  refine H1.out.mono ?_
  rintro e w1 ⟨rfl, hb1⟩
  have hx1 : PgB (w1.alloc (.cells (pgCells a dev (pg0 0)).toArray 82)) w1.heap.size a dev (pg0 0) := ⟨Blk.new w1 82 (pgCells a dev (pg0 0)).toArray, no48_len, no48_len⟩
  have hc2 := hx1.c2
  have HB2 := Lib.hid (hb1.trans ((below_al' (w := w1) (.cells (pgCells a dev (pg0 0)).toArray 82)).mono hb1.size))
  clear hb1 hx1
  go_wp2_with fail
  go_ret2
  exact ⟨rfl, HB2.out⟩
set_option maxRecDepth 100000 in
set_option maxHeartbeats 8000000 in
theorem open_on {B : Nat} {w : World} {F : Nat → Prop} {a : Nat} {pm : PM} {n dev N : Nat} {H : List (List UInt8)} {ws : Ws} (hst : St B w F a pm n) (hd : Disk pm dev N H ws) (hn : n ≤ 900000000) (hon : pm.off = false)
    (h10 : 10 ≤ N) (ht : Tab w) (hgc : 0 < w.heap.size) :
    Calls Tryd.prog 12 #[.pointer (some ⟨a, 0, none⟩), .int .i64 (dev : Int)] w (RetOp w a dev (openM (virt H ws) (min ((N - 2) / 8) 384))) := by
  have hpg := pagesOf_any hst.at_ hst.ok (dev : Int)
  rw [pagesM_disk hd hst.ok] at hpg
  obtain ⟨q, hq⟩ : ∃ q, min ((N - 2) / 8) 384 = q := ⟨_, rfl⟩
  rw [hq] at hpg ⊢
  have HPG := Lib.hid hpg
  have hq0 : 0 < q := by omega
  have hq384 : q ≤ 384 := by omega
  have hq1 : ((q : Int) == 0) = false := beq_eq_false_iff_ne.2 (by omega)
  have HST := Lib.hid hst
  have HD := Lib.hid hd
  have HON := Lib.hid hon
  have HT := Lib.hid ht
  have hbd := fun W => run_build0 W a dev q
  have hzc : (((Tryd.zeroCells82.setIfInBounds 0 (.pointer (some ⟨a, 0, none⟩))).setIfInBounds 1 (.int .i64 (dev : Int))).setIfInBounds 2 (.int .i64 (q : Int))) = (pgCells a dev (pg0 q)).toArray := by kernel_rfl
  clear hst hd hon ht hpg hq
  go_enter Tryd.func12, Tryd.ntmps12
  go_wp2_with fail
  refine HPG.out.mono ?_
  rintro e w1 ⟨rfl, hb1⟩
  have hx1 : PgB (w1.alloc (.cells (pgCells a dev (pg0 q)).toArray 82)) w1.heap.size a dev (pg0 q) := ⟨Blk.new w1 82 (pgCells a dev (pg0 q)).toArray, no48_len, no48_len⟩
  have hc2 := hx1.c2
  have HX2 := Lib.hid hx1
  have HB2 := Lib.hid (hb1.trans ((below_al' (w := w1) (.cells (pgCells a dev (pg0 q)).toArray 82)).mono hb1.size))
  have hg1 := hb1.size
  rw [show ((pg0 q).pages : Int) = (q : Int) from rfl] at hc2
  clear hb1 hx1
  go_wp2_with fail
  clear hbd hc2
  clear hzc
  generalize w1.alloc (.cells (pgCells a dev (pg0 q)).toArray 82) = w2 at *
  obtain ⟨g, hg⟩ : ∃ g, w1.heap.size = g := ⟨_, rfl⟩
  rw [hg] at HX2 hg1 ⊢
  clear hg
  go_loopw [26] (fun iv wr => OpR1 w g a dev q (virt H ws) iv wr) (fun iv _ => 2 - (intOf iv).toNat)
  case atStart => exact ⟨0, by omega, rfl, HX2.out, HB2.out⟩
  case round =>
    obtain ⟨i, hi, rfl, hx, hbw⟩ := hrel
    have HX := Lib.hid hx
    have HBW := Lib.hid hbw
    clear hx hbw
    by_cases hlt : i < 2
    · have hiI : (i : Int) < 2 := by omega
      have hrd := read_on (HST.out.below HBW.out) HD.out (by omega) HON.out i (by omega) (HT.out.below HBW.out hgc) (Nat.lt_of_lt_of_le hgc HBW.out.size)
      rw [show lastAt ws i (H.getD i zeros) = virt H ws i from rfl] at hrd
      unfold supV at hrd
      obtain ⟨G, hG⟩ : ∃ G, be ((virt H ws i).take 8) = G := ⟨_, rfl⟩
      obtain ⟨use, hu⟩ : ∃ use, ((virt H ws i).drop 10).take 48 = use := ⟨_, rfl⟩
      obtain ⟨R, hR⟩ : ∃ R : Int, (be (((virt H ws i).drop 8).take 2) : Int) - 1 = R := ⟨_, rfl⟩
      have H48 : Hid (use.length = 48) := Lib.hid (by rw [← hu]; have h := sec_len HD.out HST.out.ok i; rw [show lastAt ws i (H.getD i zeros) = virt H ws i from rfl] at h; simp [h])
      obtain ⟨mi, hmi⟩ : ∃ mi, opsM (virt H ws) q i = mi := ⟨_, rfl⟩
      have hml := opsM_gen (virt H ws) q i
      rw [hG, hu, hR] at hrd
      rw [hmi] at HX hml
      have hgw := HX.out.lt
      have HNE : Hid (opsM (virt H ws) q (i + 1) = if (okSup (virt H ws i) && decide (mi.gen < G)) = true then { mi with gen := G, root := R, use := use } else mi) := Lib.hid (by
        show opStep (opsM (virt H ws) q i) (virt H ws i) = _
        unfold opStep
        rw [hmi, hG, hR, hu])
      cases hok : okSup (virt H ws i) with
      | false =>
        rw [hok] at hrd HNE
        have HRD := Lib.hid hrd
        clear hrd hok hG hu hR hmi
        go_wp2_with fail
        refine HRD.out.mono ?_
        rintro e w3 ⟨rfl, hb3⟩
        have HB3 := Lib.hid (HBW.out.trans (hb3.mono HBW.out.size))
        have HX3 := Lib.hid (HX.out.below hb3)
        clear hb3
        go_wp2_with
          (refine wpList_store_all rfl 72 (.tmp 10) (.tmp 36) rfl w3.heap.size 72 ((List.replicate 48 (0 : UInt8)).map B8) (use.map B8) rfl rfl (Blk.new w3 72 (cellsOf (List.replicate 48 0))) (by rw [List.length_map, H48.out]; rfl) (by rw [bits_size, List.length_map, H48.out]) (cells_one _) ?_
           intro w4 hk4 hg4 hz4
           have HG4 := Lib.hid (fit_alloc hg4)
           clear hk4 hg4 hz4)
        go_roundw
        case rel => exact ⟨i + 1, by omega, by simp, by rw [HNE.out]; exact HX3.out.below HG4.out, HB3.out.trans (HG4.out.mono HB3.out.size)⟩
        case measure => simp [intOf]; omega
      | true =>
        rw [hok] at hrd HNE
        have HRD := Lib.hid hrd
        clear hrd hok hG hu hR hmi
        by_cases hgt : mi.gen < G
        · have hgtI : (mi.gen : Int) < (G : Int) := by omega
          have HNE2 : Hid (opsM (virt H ws) q (i + 1) = { mi with gen := G, root := R, use := use }) := Lib.hid (by rw [HNE.out]; simp [hgt])
          go_wp2_with fail
          refine HRD.out.mono ?_
          rintro e w3 ⟨rfl, hb3⟩
          have HB3 := Lib.hid (HBW.out.trans (hb3.mono HBW.out.size))
          have HX3 := Lib.hid (HX.out.below hb3)
          have hg3 := HX3.out.lt
          clear hb3
          go_wp2_with
            (refine wpList_store_all rfl 72 (.tmp 10) (.tmp 36) rfl w3.heap.size 72 ((List.replicate 48 (0 : UInt8)).map B8) (use.map B8) rfl rfl (Blk.new w3 72 (cellsOf (List.replicate 48 0))) (by rw [List.length_map, H48.out]; rfl) (by rw [bits_size, List.length_map, H48.out]) (cells_one _) ?_
             intro w4 hk4 hg4 hz4
             have HK4 := Lib.hid hk4
             have HG4 := Lib.hid (fit_alloc hg4)
             have hc3 := (HX3.out.below HG4.out).c3
             clear hk4 hg4 hz4)
          have HX4 := Lib.hid (HX3.out.below HG4.out)
          have HB4 := Lib.hid (HB3.out.trans (HG4.out.mono HB3.out.size))
          have f3 := HX4.out.blk.frozen 3
          have f4 := HX4.out.blk.frozen 4
          have HX5 := Lib.hid (((HX4.out.drew).setGen G).setRoot R)
          have HK5 := Lib.hid (HK4.out.far (p := ⟨g, 3, none⟩) (show w3.heap.size ≠ g by omega) (.int .u64 (G : Int)))
          have HK6 := Lib.hid (HK5.out.far (p := ⟨g, 4, none⟩) (show w3.heap.size ≠ g by omega) (.int .i64 R))
          have c3 := HX4.out.c3
          have c4 := HX4.out.c4
          clear hc3
          refine Ord.region_ordS (fun x => Blk x w3.heap.size 72 (use.map B8).toArray) [8, 11, 14] [5] [0, 1, 2, 3, 4, 5, 6, 7, 8, 9, 10, 11, 12, 13, 14] (by kernel_rfl) (by kernel_rfl) (by kernel_rfl) (by kernel_rfl) (HK4.out) (Ord.ordS_run [0, 1, 2, 3, 4] [_, _, _, _, _] rfl (by kernel_rfl) ?_)
          go_wp2_with fail
          refine Ord.nxS_run (Ord.ordS_val (.agg (use.map B8).toArray) rfl (by kernel_rfl) (yieldsIf_load_mid (by rfl) 72 (.tmp 10) rfl w3.heap.size 0 rfl (use.map B8) _ (fun x hx => blk_range hx 0 _ fun j v hv => by rw [Nat.zero_add]; exact hv) Tryd.underlying72 rfl (by rw [bits_size, List.length_map, H48.out])) ?_)
          simp only [Act.put, List.setIfInBounds_toArray]
          refine Ord.ordS_run [6, 7] [_, _] rfl (by kernel_rfl) ?_
          go_wp2_with fail
          refine Ord.nxS_run (Ord.ordS_one rfl (by kernel_rfl) ?_)
          go_wp2_with fail
          refine Ord.nxS_one (show Blk _ _ _ _ from HK5.out) ?_
          refine Ord.ordS_run [9, 10] [_, _] rfl (by kernel_rfl) ?_
          go_wp2_with fail
          refine Ord.nxS_run (Ord.ordS_one rfl (by kernel_rfl) ?_)
          go_wp2_with fail
          refine Ord.nxS_one (show Blk _ _ _ _ from HK6.out) ?_
          refine Ord.ordS_run [12, 13] [_, _] rfl (by kernel_rfl) ?_
          go_wp2_with fail
          refine Ord.nxS_run (Ord.ordS_one rfl (by kernel_rfl) ?_)
          go_wp2_with
            (refine wpList_store_in rfl 72 (.tmp 62) (.tmp 56) rfl g 5 82 (pgCells a dev { mi with gen := G, root := R }) (use.map B8) rfl rfl (show Blk _ _ _ _ from HX5.out.blk) (by rw [pgCells_len]; simp [HX5.out.ul, HX5.out.wl, H48.out]) (by rw [bits_size, List.length_map, H48.out]) (cells_one _) ?_
             intro w7 hk7 hg7 hz7
             have HX7 := Lib.hid (open_x7 HX5.out H48.out hk7)
             have HB7 := Lib.hid (open_b7 HB4.out (Nat.le_trans hg1 (Nat.le_refl g)) hg7)
             have HK7 := Lib.hid (HK6.out.drew.grown hg7 (by intro e; injection e with e; omega))
             clear hk7 hg7 hz7 c3 c4 f3 f4)
          refine Ord.nxS_one (HK7.out) ?_
          refine Ord.ordS_end ?_
          go_wp2_with fail
          go_roundw
          case rel => exact ⟨i + 1, by omega, by simp, by rw [HNE2.out]; exact HX7.out, HB7.out⟩
          case measure => simp [intOf]; omega
        · have hgtI : ¬ (mi.gen : Int) < (G : Int) := by omega
          have HNE2 : Hid (opsM (virt H ws) q (i + 1) = mi) := Lib.hid (by rw [HNE.out]; simp [hgt])
          go_wp2_with fail
          refine HRD.out.mono ?_
          rintro e w3 ⟨rfl, hb3⟩
          have HB3 := Lib.hid (HBW.out.trans (hb3.mono HBW.out.size))
          have HX3 := Lib.hid (HX.out.below hb3)
          clear hb3
          go_wp2_with
            (refine wpList_store_all rfl 72 (.tmp 10) (.tmp 36) rfl w3.heap.size 72 ((List.replicate 48 (0 : UInt8)).map B8) (use.map B8) rfl rfl (Blk.new w3 72 (cellsOf (List.replicate 48 0))) (by rw [List.length_map, H48.out]; rfl) (by rw [bits_size, List.length_map, H48.out]) (cells_one _) ?_
             intro w4 hk4 hg4 hz4
             have HG4 := Lib.hid (fit_alloc hg4)
             have hc3 := (HX3.out.below HG4.out).c3
             clear hk4 hg4 hz4)
          go_roundw
          case rel => exact ⟨i + 1, by omega, by simp, by rw [HNE2.out]; exact HX3.out.below HG4.out, HB3.out.trans (HG4.out.mono HB3.out.size)⟩
          case measure => simp [intOf]; omega
    · obtain rfl : i = 2 := by omega
      rw [show ((2 : Nat) : Int) = 2 from rfl]
      obtain ⟨w3, rfl⟩ : ∃ w3, w3 = wr := ⟨_, rfl⟩
      obtain ⟨m, hm⟩ : ∃ m, opsM (virt H ws) q 2 = m := ⟨_, rfl⟩
      have hmp := (opsM_pages (virt H ws) q 2).1
      have HROOT := Lib.hid (opsM_root (virt H ws) q (fun i _ => by have h := sec_len HD.out HST.out.ok i; exact h) 2 (by omega))
      rw [hm] at HX hmp HROOT
      have HM := Lib.hid hm
      have HMP := Lib.hid hmp
      have c2 := HX.out.c2
      rw [hmp] at c2
      have hgw := HX.out.lt
      clear hm hmp
      go_wp2_with fail
      go_loopw [64] (fun iv wr => OpR2 m w3 iv wr) (fun iv _ => 384 - (intOf iv).toNat)
      case atStart => exact ⟨0, by omega, rfl, rfl, rfl⟩
      case round =>
        obtain ⟨i, hi, rfl, hok, rfl⟩ := hrel
        have HOK := Lib.hid hok
        clear hok
        by_cases hlt : i < 384
        · have hiI : (i : Int) < 384 := by omega
          by_cases hqi : q ≤ i
          · have hqI : (q : Int) ≤ (i : Int) := by omega
            have hh := has_any wr g 5 m.use HX.out.useAt i hlt
            cases hb : hasB m.use i with
            | true =>
              rw [hb] at hh
              have HH := Lib.hid hh
              have HBAD : Hid (useOk m (i + 1) = false) := Lib.hid (by rw [useOk_next, HMP.out, hb]; simp [hqi])
              clear hh hb
              go_wp2_with fail
              refine HH.out.mono ?_
              rintro e _ ⟨rfl, rfl⟩
              go_wp2_with fail
              go_ret2
              exact ⟨HBW.out, .inl ⟨openM_bad (by rw [HM.out]; exact HBAD.out) (by omega), rfl⟩⟩
            | false =>
              rw [hb] at hh
              have HH := Lib.hid hh
              have HGOOD : Hid (useOk m (i + 1) = true) := Lib.hid (by rw [useOk_next, HOK.out, hb]; simp)
              clear hh hb
              go_wp2_with fail
              refine HH.out.mono ?_
              rintro e _ ⟨rfl, rfl⟩
              go_wp2_with fail
              go_roundw
              case rel => exact ⟨i + 1, by omega, by simp, HGOOD.out, rfl⟩
              case measure => simp [intOf]; omega
          · have hqI : ¬ (q : Int) ≤ (i : Int) := by omega
            have HGOOD : Hid (useOk m (i + 1) = true) := Lib.hid (by rw [useOk_next, HOK.out, HMP.out]; simp [hqi])
            go_wp2_with fail
            go_roundw
            case rel => exact ⟨i + 1, by omega, by simp, HGOOD.out, rfl⟩
            case measure => simp [intOf]; omega
        · obtain rfl : i = 384 := by omega
          have c3 := HX.out.c3
          have c4 := HX.out.c4
          obtain ⟨G, hG⟩ : ∃ G, m.gen = G := ⟨_, rfl⟩
          obtain ⟨R, hR⟩ : ∃ R, m.root = R := ⟨_, rfl⟩
          rw [hG] at c3
          rw [hR] at c4 HROOT
          by_cases hg0 : G = 0
          · have hgz : ((G : Int) == 0) = true := by rw [hg0]; rfl
            have HRO : Hid (rootOk m = false) := Lib.hid (by unfold rootOk; rw [hG, hg0]; rfl)
            clear hg0 hG hR
            go_wp2_with fail
            refine Ord.region_ordM [] [4, 6, 7, 8, 9, 10, 11, 12, 13, 14, 17, 18, 19, 20, 21, 22, 23, 24, 25, 26, 27, 28, 29, 30, 31, 32] [0, 1, 2, 3, 4, 5, 6, 7, 8, 9, 10, 11, 12, 13, 14, 15, 16, 17, 18, 19, 20, 21, 22, 23, 24, 25, 26, 27, 28, 29, 30, 31, 32, 33] (by kernel_rfl) (by kernel_rfl) (by kernel_rfl) (by kernel_rfl) (Ord.ord_run [0, 1, 2, 3] [_, _, _, _] rfl (by kernel_rfl) ?_)
            go_wp2_with fail
            refine Ord.nx_ord (Ord.ord_pure (.bool true) rfl (by kernel_rfl) (by rfl) (fun w' => by first | (go_simp; done) | (go_simp; exact hgz)) ?_)
            simp only [Act.put, List.setIfInBounds_toArray]
            refine Ord.ord_run [5] [_] rfl (by kernel_rfl) ?_
            go_wp2_with fail
            refine Ord.nx_ord (ord_skips [6, 7, 8, 9, 10, 11, 12, 13, 14] [_, _, _, _, _, _, _, _, _] rfl (by kernel_rfl) (by kernel_rfl) (by kernel_rfl) ?_)
            refine Ord.ord_run [15, 16] [_, _] rfl (by kernel_rfl) ?_
            go_wp2_with fail
            refine Ord.nx_ord (ord_skips [17, 18, 19, 20, 21, 22, 23, 24, 25, 26, 27, 28, 29, 30, 31, 32] [_, _, _, _, _, _, _, _, _, _, _, _, _, _, _, _] rfl (by kernel_rfl) (by kernel_rfl) (by kernel_rfl) ?_)
            refine Ord.ord_all [_] rfl (by kernel_rfl) ?_
            go_wp2_with fail
            refine Ord.nx_end ?_
            go_wp2_with fail
            go_ret2
            exact ⟨below_drewN HBW.out 1, .inl ⟨openM_root (by rw [HM.out]; exact HRO.out), rfl⟩⟩
          · have hgz : ((G : Int) == 0) = false := beq_eq_false_iff_ne.2 (by omega)
            by_cases hrq : (q : Int) ≤ R
            · have HRO : Hid (rootOk m = false) := Lib.hid (by unfold rootOk; rw [HMP.out, hR]; simp [hrq])
              clear hg0 hG hR
              go_wp2_with fail
              refine Ord.region_ordM [] [4, 14, 17, 18, 19, 20, 21, 22, 23, 24, 25, 26, 27, 28, 29, 30, 31, 32] [0, 1, 2, 3, 4, 5, 6, 7, 8, 9, 10, 11, 12, 13, 14, 15, 16, 17, 18, 19, 20, 21, 22, 23, 24, 25, 26, 27, 28, 29, 30, 31, 32, 33] (by kernel_rfl) (by kernel_rfl) (by kernel_rfl) (by kernel_rfl) (Ord.ord_run [0, 1, 2, 3] [_, _, _, _] rfl (by kernel_rfl) ?_)
              go_wp2_with fail
              refine Ord.nx_ord (Ord.ord_pure (.bool false) rfl (by kernel_rfl) (by rfl) (fun w' => by first | (go_simp; done) | (go_simp; exact hgz)) ?_)
              simp only [Act.put, List.setIfInBounds_toArray]
              refine Ord.ord_run [5] [_] rfl (by kernel_rfl) ?_
              go_wp2_with fail
              refine Ord.nx_ord (Ord.ord_run [6, 7, 8, 9] [_, _, _, _] rfl (by kernel_rfl) ?_)
              go_wp2_with fail
              refine Ord.nx_ord (Ord.ord_run [10, 11, 12, 13] [_, _, _, _] rfl (by kernel_rfl) ?_)
              go_wp2_with fail
              refine Ord.nx_ord (Ord.ord_pure (.bool true) rfl (by kernel_rfl) (by rfl) (fun w' => by first | (go_simp; done) | (go_simp; omega)) ?_)
              simp only [Act.put]
              refine Ord.ord_run [15, 16] [_, _] rfl (by kernel_rfl) ?_
              go_wp2_with fail
              refine Ord.nx_ord (ord_skips [17, 18, 19, 20, 21, 22, 23, 24, 25, 26, 27, 28, 29, 30, 31, 32] [_, _, _, _, _, _, _, _, _, _, _, _, _, _, _, _] rfl (by kernel_rfl) (by kernel_rfl) (by kernel_rfl) ?_)
              refine Ord.ord_all [_] rfl (by kernel_rfl) ?_
              go_wp2_with fail
              refine Ord.nx_end ?_
              go_wp2_with fail
              go_ret2
              exact ⟨below_drewN HBW.out 1, .inl ⟨openM_root (by rw [HM.out]; exact HRO.out), rfl⟩⟩
            · by_cases hr0 : (0 : Int) ≤ R
              · obtain ⟨r, rfl⟩ := Int.eq_ofNat_of_zero_le hr0
                have hh := has_any wr.drew g 5 m.use HX.out.drew.useAt r (by omega)
                cases hb : hasB m.use r with
                | true =>
                  rw [hb] at hh
                  have HH := Lib.hid hh
                  have HRO : Hid (rootOk m = true) := Lib.hid (by unfold rootOk; rw [HMP.out, hR, hG]; simp [hrq, hb, hg0])
                  clear hg0 hG hR hh hb
                  go_wp2_with fail
                  refine Ord.region_ordM [30] [4, 14, 21, 31] [0, 1, 2, 3, 4, 5, 6, 7, 8, 9, 10, 11, 12, 13, 14, 15, 16, 17, 18, 19, 20, 21, 22, 23, 24, 25, 26, 27, 28, 29, 30, 31, 32, 33] (by kernel_rfl) (by kernel_rfl) (by kernel_rfl) (by kernel_rfl) (Ord.ord_run [0, 1, 2, 3] [_, _, _, _] rfl (by kernel_rfl) ?_)
                  go_wp2_with fail
                  refine Ord.nx_ord (Ord.ord_pure (.bool false) rfl (by kernel_rfl) (by rfl) (fun w' => by first | (go_simp; done) | (go_simp; exact hgz)) ?_)
                  simp only [Act.put, List.setIfInBounds_toArray]
                  refine Ord.ord_run [5] [_] rfl (by kernel_rfl) ?_
                  go_wp2_with fail
                  refine Ord.nx_ord (Ord.ord_run [6, 7, 8, 9] [_, _, _, _] rfl (by kernel_rfl) ?_)
                  go_wp2_with fail
                  refine Ord.nx_ord (Ord.ord_run [10, 11, 12, 13] [_, _, _, _] rfl (by kernel_rfl) ?_)
                  go_wp2_with fail
                  refine Ord.nx_ord (Ord.ord_pure (.bool false) rfl (by kernel_rfl) (by rfl) (fun w' => by first | (go_simp; done) | (go_simp; omega)) ?_)
                  simp only [Act.put]
                  refine Ord.ord_run [15, 16] [_, _] rfl (by kernel_rfl) ?_
                  go_wp2_with fail
                  refine Ord.nx_ord (Ord.ord_run [17, 18, 19, 20] [_, _, _, _] rfl (by kernel_rfl) ?_)
                  go_wp2_with fail
                  refine Ord.nx_ord (Ord.ord_pure (.bool true) rfl (by kernel_rfl) (by rfl) (fun w' => by first | (go_simp; done) | (go_simp; omega)) ?_)
                  simp only [Act.put]
                  refine Ord.ord_run [22] [_] rfl (by kernel_rfl) ?_
                  go_wp2_with fail
                  refine Ord.nx_ord (Ord.ord_run [23, 24, 25, 26] [_, _, _, _] rfl (by kernel_rfl) ?_)
                  go_wp2_with fail
                  refine Ord.nx_ord (Ord.ord_run [27, 28, 29] [_, _, _] rfl (by kernel_rfl) ?_)
                  go_wp2_with fail
                  refine Ord.nx_ord (Ord.ord_oneM rfl (by kernel_rfl) ?_)
                  go_wp2_with fail
                  refine HH.out.mono ?_
                  rintro e _ ⟨rfl, rfl⟩
                  go_wp2_with fail
                  refine Ord.nx_and (Below.refl _ _) ?_
                  refine Ord.ord_pure (.bool false) rfl (by kernel_rfl) (by rfl) (fun w' => by first | (go_simp; done) | (go_simp; rfl)) ?_
                  simp only [Act.put]
                  refine Ord.ord_run [32] [_] rfl (by kernel_rfl) ?_
                  go_wp2_with fail
                  refine Ord.nx_ord (Ord.ord_all [_] rfl (by kernel_rfl) ?_)
                  go_wp2_with fail
                  refine Ord.nx_end ?_
                  have hgu := HX.out.blk.frozen 53
                  go_wp2_with
                    (first
                       | (refine wpList_load_mid rfl 72 (.tmp 118) rfl g 5 rfl (m.use.map B8) _ (show World.rangeAt _ _ _ _ from HX.out.drew.range5) Tryd.underlying72 rfl (by rw [bits_size, List.length_map, HX.out.ul]) ?_)
                       | (refine wpList_store_in rfl 72 (.tmp 121) (.tmp 119) rfl g 53 82 (pgCells a dev m) (m.use.map B8) rfl rfl (show Blk _ _ _ _ from HX.out.drew.blk) (by rw [pgCells_len]; simp [HX.out.ul, HX.out.wl]) (by rw [bits_size, List.length_map, HX.out.ul]) (cells_one _) ?_
                          intro w9 hk9 hg9 hz9
                          have HX9 := Lib.hid (open_x8 HX.out HX.out.ul hk9)
                          have HB9 := Lib.hid (open_b8 (below_drewN HBW.out 1) hg1 hg9)
                          clear hk9 hg9 hz9))
                  go_ret2
                  exact ⟨HB9.out, .inr ⟨g, _, openM_good (by rw [HM.out]; exact HOK.out) (by rw [HM.out]; exact HRO.out), rfl, hg1, by rw [HM.out]; exact HX9.out⟩⟩
                | false =>
                  rw [hb] at hh
                  have HH := Lib.hid hh
                  have HRO : Hid (rootOk m = false) := Lib.hid (by unfold rootOk; rw [hR]; simp [hb])
                  clear hg0 hG hR hh hb
                  go_wp2_with fail
                  refine Ord.region_ordM [30] [4, 14, 21, 31] [0, 1, 2, 3, 4, 5, 6, 7, 8, 9, 10, 11, 12, 13, 14, 15, 16, 17, 18, 19, 20, 21, 22, 23, 24, 25, 26, 27, 28, 29, 30, 31, 32, 33] (by kernel_rfl) (by kernel_rfl) (by kernel_rfl) (by kernel_rfl) (Ord.ord_run [0, 1, 2, 3] [_, _, _, _] rfl (by kernel_rfl) ?_)
                  go_wp2_with fail
                  refine Ord.nx_ord (Ord.ord_pure (.bool false) rfl (by kernel_rfl) (by rfl) (fun w' => by first | (go_simp; done) | (go_simp; exact hgz)) ?_)
                  simp only [Act.put, List.setIfInBounds_toArray]
                  refine Ord.ord_run [5] [_] rfl (by kernel_rfl) ?_
                  go_wp2_with fail
                  refine Ord.nx_ord (Ord.ord_run [6, 7, 8, 9] [_, _, _, _] rfl (by kernel_rfl) ?_)
                  go_wp2_with fail
                  refine Ord.nx_ord (Ord.ord_run [10, 11, 12, 13] [_, _, _, _] rfl (by kernel_rfl) ?_)
                  go_wp2_with fail
                  refine Ord.nx_ord (Ord.ord_pure (.bool false) rfl (by kernel_rfl) (by rfl) (fun w' => by first | (go_simp; done) | (go_simp; omega)) ?_)
                  simp only [Act.put]
                  refine Ord.ord_run [15, 16] [_, _] rfl (by kernel_rfl) ?_
                  go_wp2_with fail
                  refine Ord.nx_ord (Ord.ord_run [17, 18, 19, 20] [_, _, _, _] rfl (by kernel_rfl) ?_)
                  go_wp2_with fail
                  refine Ord.nx_ord (Ord.ord_pure (.bool true) rfl (by kernel_rfl) (by rfl) (fun w' => by first | (go_simp; done) | (go_simp; omega)) ?_)
                  simp only [Act.put]
                  refine Ord.ord_run [22] [_] rfl (by kernel_rfl) ?_
                  go_wp2_with fail
                  refine Ord.nx_ord (Ord.ord_run [23, 24, 25, 26] [_, _, _, _] rfl (by kernel_rfl) ?_)
                  go_wp2_with fail
                  refine Ord.nx_ord (Ord.ord_run [27, 28, 29] [_, _, _] rfl (by kernel_rfl) ?_)
                  go_wp2_with fail
                  refine Ord.nx_ord (Ord.ord_oneM rfl (by kernel_rfl) ?_)
                  go_wp2_with fail
                  refine HH.out.mono ?_
                  rintro e _ ⟨rfl, rfl⟩
                  go_wp2_with fail
                  refine Ord.nx_and (Below.refl _ _) ?_
                  refine Ord.ord_pure (.bool true) rfl (by kernel_rfl) (by rfl) (fun w' => by first | (go_simp; done) | (go_simp; rfl)) ?_
                  simp only [Act.put]
                  refine Ord.ord_run [32] [_] rfl (by kernel_rfl) ?_
                  go_wp2_with fail
                  refine Ord.nx_ord (Ord.ord_all [_] rfl (by kernel_rfl) ?_)
                  go_wp2_with fail
                  refine Ord.nx_end ?_
                  go_wp2_with fail
                  go_ret2
                  exact ⟨below_drewN HBW.out 1, .inl ⟨openM_root (by rw [HM.out]; exact HRO.out), rfl⟩⟩
              · have HRO : Hid (rootOk m = true) := Lib.hid (by unfold rootOk; rw [HMP.out, hR, hG]; simp [hrq, hr0, hg0])
                clear hg0 hG hR
                go_wp2_with fail
                refine Ord.region_ordM [] [4, 14, 21, 23, 24, 25, 26, 27, 28, 29, 30, 31] [0, 1, 2, 3, 4, 5, 6, 7, 8, 9, 10, 11, 12, 13, 14, 15, 16, 17, 18, 19, 20, 21, 22, 23, 24, 25, 26, 27, 28, 29, 30, 31, 32, 33] (by kernel_rfl) (by kernel_rfl) (by kernel_rfl) (by kernel_rfl) (Ord.ord_run [0, 1, 2, 3] [_, _, _, _] rfl (by kernel_rfl) ?_)
                go_wp2_with fail
                refine Ord.nx_ord (Ord.ord_pure (.bool false) rfl (by kernel_rfl) (by rfl) (fun w' => by first | (go_simp; done) | (go_simp; exact hgz)) ?_)
                simp only [Act.put, List.setIfInBounds_toArray]
                refine Ord.ord_run [5] [_] rfl (by kernel_rfl) ?_
                go_wp2_with fail
                refine Ord.nx_ord (Ord.ord_run [6, 7, 8, 9] [_, _, _, _] rfl (by kernel_rfl) ?_)
                go_wp2_with fail
                refine Ord.nx_ord (Ord.ord_run [10, 11, 12, 13] [_, _, _, _] rfl (by kernel_rfl) ?_)
                go_wp2_with fail
                refine Ord.nx_ord (Ord.ord_pure (.bool false) rfl (by kernel_rfl) (by rfl) (fun w' => by first | (go_simp; done) | (go_simp; omega)) ?_)
                simp only [Act.put]
                refine Ord.ord_run [15, 16] [_, _] rfl (by kernel_rfl) ?_
                go_wp2_with fail
                refine Ord.nx_ord (Ord.ord_run [17, 18, 19, 20] [_, _, _, _] rfl (by kernel_rfl) ?_)
                go_wp2_with fail
                refine Ord.nx_ord (Ord.ord_pure (.bool false) rfl (by kernel_rfl) (by rfl) (fun w' => by first | (go_simp; done) | (go_simp; omega)) ?_)
                simp only [Act.put]
                refine Ord.ord_run [22] [_] rfl (by kernel_rfl) ?_
                go_wp2_with fail
                refine Ord.nx_ord (ord_skips [23, 24, 25, 26, 27, 28, 29, 30, 31] [_, _, _, _, _, _, _, _, _] rfl (by kernel_rfl) (by kernel_rfl) (by kernel_rfl) ?_)
                refine Ord.ord_run [32] [_] rfl (by kernel_rfl) ?_
                go_wp2_with fail
                refine Ord.nx_ord (Ord.ord_all [_] rfl (by kernel_rfl) ?_)
                go_wp2_with fail
                refine Ord.nx_end ?_
                go_wp2_with
                  (first
                     | (refine wpList_load_mid rfl 72 (.tmp 118) rfl g 5 rfl (m.use.map B8) _ (show World.rangeAt _ _ _ _ from HX.out.drew.range5) Tryd.underlying72 rfl (by rw [bits_size, List.length_map, HX.out.ul]) ?_)
                     | (refine wpList_store_in rfl 72 (.tmp 121) (.tmp 119) rfl g 53 82 (pgCells a dev m) (m.use.map B8) rfl rfl (show Blk _ _ _ _ from HX.out.drew.blk) (by rw [pgCells_len]; simp [HX.out.ul, HX.out.wl]) (by rw [bits_size, List.length_map, HX.out.ul]) (cells_one _) ?_
                        intro w9 hk9 hg9 hz9
                        have HX9 := Lib.hid (open_x8 HX.out HX.out.ul hk9)
                        have HB9 := Lib.hid (open_b8 (below_drewN HBW.out 1) hg1 hg9)
                        clear hk9 hg9 hz9))
                go_ret2
                exact ⟨HB9.out, .inr ⟨g, _, openM_good (by rw [HM.out]; exact HOK.out) (by rw [HM.out]; exact HRO.out), rfl, hg1, by rw [HM.out]; exact HX9.out⟩⟩
end Go.Proofs.YtookhagpgkefpaaDoor.Pag
