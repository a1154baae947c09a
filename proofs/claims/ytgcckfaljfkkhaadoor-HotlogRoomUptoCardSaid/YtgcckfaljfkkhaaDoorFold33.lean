/- The law 'HotlogRoom'. -/
import Derived.Test.YtgcckfaljfkkhaaDoorHotOps
import Derived.Test.YtgcckfaljfkkhaaDoorFold0
import Derived.ProofKit
import Derived.OpenShut
import Derived.WideKeyArgs
import Derived.Deep.DeepHandedRow
import Derived.Deep.Slices
import Derived.Test.YtgcckfaljfkkhaaDoorHotApp
import Derived.Test.YtgcckfaljfkkhaaDoorCards
import Derived.Test.YtgcckfaljfkkhaaDoorTie
import Derived.Lib.LaidTab
namespace Go.Proofs.YtgcckfaljfkkhaaDoor.Hot
open Go Go.RowKit Mem Pl Disk Crc _root_.Go.Proofs.YtgcckfaljfkkhaaDoor.Frame
def RoomR (W : World) (s a r n m k : Nat) (iv : Value) (wr : World) : Prop := ∃ i, i + k = m ∧ iv = .int .i64 (i : Int) ∧ Below W.heap.size W wr ∧ Stood W.heap.size wr s a r n (40 * i) (18 * i) (2 * i) (2 * i)
theorem iat_cell {w : World} {A : Option Addr} {zs : List Int} {i : Nat} {z : Int} (h : IAt w A zs) (hz : zs[i]? = some z) : ∃ ad, A = some ad ∧ w.cell? (ad.add i) = some (.int .i64 z) := by
  rcases h with rfl | ⟨ad, hA, hc⟩
  · simp at hz
  · exact ⟨ad, hA, hc i z hz⟩
/-- Bytes of the law's own appended. -/
theorem Stood.app {B : Nat} {w w' : World} {s a r n m ever dims k : Nat} (x : Stood B w s a r n m ever dims k) (hb : Below w.heap.size w w') (hk : k ≤ 90000000) (hm : m ≤ 900000000) (hev : ever ≤ 4000000000000000000) (hdi : dims ≤ 4000000000000000000)
    (kind num : Int) (g L cap : Nat) (bs : List UInt8) (hbs : BAt w' (some ⟨g, 0, none⟩) bs) (hl : bs.length = L) (hL : L ≤ 140737488355327) (hg : w.heap.size ≤ g) (hg2 : g < w'.heap.size) (p : Plc) :
    Calls Tryd.prog 24 #[.pointer (some ⟨s, 0, none⟩), opV kind num (some ⟨g, 0, none⟩) L cap p none 0 0] w' fun e w2 => e = .returned (.bool true) ∧ Below B w' w2 ∧ Stood B w2 s a r n (m + 20) (ever + 9) (dims + 1) (k + 1) := by
  obtain ⟨h, F, H, G, pm, m', Hs, segs, hsed, used, bytes, ever', dims', y, g1, g2, g3, g4⟩ := x
  refine (sappend_any (y.below hb) (by omega) (by omega) (by omega) (by omega) kind num (some ⟨g, 0, none⟩) L cap bs p none 0 0 [] hbs hl hL (fun _ ad hA => ?_) (.inl rfl) rfl (fun h => absurd rfl h) (by omega)).mono ?_
  · injection hA with hA
    subst hA
    have := y.blk.lt
    exact ⟨hg2, fun hf => by have : g < w.heap.size := (y.hot.st.lt _ hf).2; omega, fun hf => by have : g < w.heap.size := (y.hot.lt _ hf).2; omega, fun hf => by have : g < w.heap.size := (y.lt _ hf).2; omega, by show g ≠ s; omega⟩
  · rintro e w2 ⟨he, hb', hz⟩
    exact ⟨he, hb', hz.more (by omega) (by omega) (by omega) (by omega)⟩
set_option maxRecDepth 100000 in
set_option maxHeartbeats 16000000 in
theorem lawHotRoom (z : Int) (hz : inI z) (A1 : Option Addr) (n1 c1 : Nat) (zs1 : List Int) (A2 : Option Addr) (n2 c2 : Nat) (zs2 : List Int) (W : World) (ht : Tabs W.heap.size W) (h1 : IAt W A1 zs1) (hl1 : zs1.length = n1) (hi1 : ∀ z ∈ zs1, inI z) (hn1 : n1 ≤ 10000000) (h2 : IAt W A2 zs2) (hl2 : zs2.length = n2) (hi2 : ∀ z ∈ zs2, inI z) (hn2 : n2 ≤ 10000000) :
    Calls Tryd.prog 7 #[.int .i64 z, .slice A1 n1 c1, .slice A2 n2 c2] W fun e W' => e = .returned (.bool true) ∧ Below W.heap.size W W' := by
  have HT := Lib.hid ht
  have H1 := Lib.hid h1
  have H2 := Lib.hid h2
  have HL1 := Lib.hid hl1
  have HL2 := Lib.hid hl2
  have HI1 := Lib.hid hi1
  have HI2 := Lib.hid hi2
  have HWH := Lib.hid (fun w : World => which_any w z 120 (by omega) (by omega) hz)
  clear ht h1 h2 hl1 hl2 hi1 hi2
  have hwl := whichM_lt z (show 0 < 120 by omega)
  obtain ⟨q, hq⟩ : ∃ q, whichM z 120 = q := ⟨_, rfl⟩
  rw [hq] at HWH hwl
  have hw1 : IntKind.i64.wrap (16 + (q : Int)) = ((16 + q : Nat) : Int) := by rw [IntWalk.i64_in _ (by omega)]; push_cast; rfl
  clear hq
  go_enter Tryd.func7, Tryd.ntmps7
  go_wp2_with fail
  refine (shown_any _ HT.out).mono ?_
  rintro e w1 ⟨rfl, hb1⟩
  have HB1 := Lib.hid hb1
  clear hb1
  go_wp2_with fail
  refine (HWH.out _).mono ?_
  rintro e _ ⟨rfl, rfl⟩
  have HBG := Lib.hid (begun_stood w1 (16 + q) (by omega) (by omega) (HT.out.below HB1.out (Nat.le_refl _)) HB1.out.size)
  obtain ⟨N, hN⟩ : ∃ N, 16 + q = N := ⟨_, rfl⟩
  rw [hN] at HBG hw1
  have hN2 : N ≤ 135 := by omega
  go_wp2_with fail
  refine HBG.out.mono ?_
  rintro e w2 ⟨s, a, r, rfl, hs, hb2⟩
  have HS := Lib.hid hs
  have HB2 := Lib.hid (HB1.out.trans (hb2.mono HB1.out.size))
  clear hs hb2 HBG HB1 HWH hw1 hN
  go_wp2_with fail
  go_loopg [10] n1 (fun k iv wr => RoomR W s a r N n1 k iv wr)
  case atStart => exact ⟨0, by omega, rfl, HB2.out, HS.out⟩
  case round =>
    obtain ⟨i, hi, rfl, hb, hsr⟩ := hrel
    have HBR := Lib.hid hb
    have HSR := Lib.hid hsr
    have HGI := Lib.hid hi
    clear hb hsr hi
    by_cases hlt : i < n1
    · have hiI : (i : Int) < (n1 : Int) := by omega
      obtain ⟨z1, hz1⟩ : ∃ z1, zs1[i]? = some z1 := ⟨_, List.getElem?_eq_getElem (by rw [HL1.out]; exact hlt)⟩
      obtain ⟨ad1, hA1, x0⟩ := iat_cell (H1.out.below HBR.out) hz1
      subst hA1
      have HW1 := Lib.hid (fun w : World => which_any w z1 513 (by omega) (by omega) (HI1.out z1 (List.mem_of_getElem? hz1)))
      have hl513 := whichM_lt z1 (show 0 < 513 by omega)
      clear hz1
      obtain ⟨L, hL⟩ : ∃ L, whichM z1 513 = L := ⟨_, rfl⟩
      rw [hL] at HW1 hl513
      clear hL
      go_wp2_with fail
      refine (HW1.out _).mono ?_
      rintro e _ ⟨rfl, rfl⟩
      go_upto_region 12 with
        (refine wpList_make_bytes rfl _ _ _ _ rfl Frame.byteTy .i64 .i64 L rfl rfl (by omega) ?_
         intro wm hb2 hw2 hz2
         have HBK := Lib.hid hb2
         have HBM := Lib.hid hw2
         have HLM := Lib.hid hz2
         clear hb2 hw2 hz2)
      have hle : wr.heap.size ≤ wm.heap.size := HBM.out.size
      have HSM := Lib.hid (HSR.out.below HBM.out)
      obtain ⟨_, hls, c0, ⟨ev, hevl, c3⟩, _⟩ := HSM.out.cells
      have HCO := Lib.hid (fun w : World => rcost_any w L (by omega))
      have hcl := cost_le (show L ≤ 512 by omega)
      obtain ⟨C, hC⟩ : ∃ C, costM L = C := ⟨_, rfl⟩
      rw [hC] at HCO hcl
      have hq16 : (N : Int).tdiv 16 = (N : Int) / 16 := Int.tdiv_eq_ediv_of_nonneg (by omega)
      have hwr : IntKind.i64.wrap ((N : Int) / 16) = (N : Int) / 16 := IntWalk.i64_in _ (by omega)
      have hwm : IntKind.i64.wrap (8 * ((N : Int) / 16)) = 8 * ((N : Int) / 16) := IntWalk.i64_in _ (by omega)
      have hwa : IntKind.i64.wrap ((ev : Int) + (C : Int)) = (ev : Int) + (C : Int) := IntWalk.i64_in _ (by omega)
      clear x0 hC
      refine Ord.region_ordM [6] [9, 10] [0, 1, 2, 3, 4, 5, 8, 9, 10, 6, 7, 11] (by kernel_rfl) (by kernel_rfl) (by kernel_rfl) (by kernel_rfl) (Ord.ord_run [0, 1, 2, 3, 4, 5, 8] [_, _, _, _, _, _, _] rfl (by kernel_rfl) ?_)
      go_wp2_with fail
      refine Ord.nx_ord (Ord.ord_pure (.int .i64 ((N : Int) / 16)) rfl (by kernel_rfl) rfl (fun w' => by first | (go_simp; done) | (go_simp; exact hwr) | (go_simp; rw [hq16]; exact hwr)) ?_)
      simp only [Act.put, List.setIfInBounds_toArray, List.set_cons_zero, List.set_cons_succ]
      refine Ord.ord_pure (.int .i64 (8 * ((N : Int) / 16))) rfl (by kernel_rfl) rfl (fun w' => by first | (go_simp; done) | (go_simp; exact hwm)) ?_
      simp only [Act.put, List.setIfInBounds_toArray, List.set_cons_zero, List.set_cons_succ]
      refine Ord.ord_oneM rfl (by kernel_rfl) ?_
      go_wp2_with fail
      refine (HCO.out _).mono ?_
      rintro e _ ⟨rfl, rfl⟩
      go_wp2_with fail
      refine Ord.nx_and (Below.refl _ _) (Ord.ord_all [_, _] rfl (by kernel_rfl) ?_)
      have hB3 := HSM.out.cells.1
      by_cases hgt : 8 * ((N : Int) / 16) < (ev : Int) + (C : Int)
      · have HA := Lib.hid (fun w (hb : Below wm.heap.size wm w) => (HSM.out.below hb).all (by omega) (by omega))
        go_wp2_with fail
        refine Ord.nx_end ?_
        go_wp2_with fail
        refine (HA.out _ (below_drewN (Below.refl _ _) 1)).mono ?_
        rintro e w4 ⟨rfl, hb4⟩
        have HB4 := Lib.hid ((HBR.out.trans (HBM.out.mono HBR.out.size)).trans (((below_drewN (Below.refl wm.heap.size wm) 1).trans hb4).mono hB3))
        clear hb4 HA
        go_wp2_with fail
        go_ret
        exact ⟨rfl, HB4.out⟩
      · have HAP := Lib.hid (fun w (hb : Below wm.heap.size wm w) => HSR.out.app (w' := w) (HBM.out.trans (hb.mono hle)) (by omega) (by omega) (by omega) (by omega) 0 0 wr.heap.size L L (List.replicate L 0) (HBK.out.bat.below hb) (by simp) (by omega) (Nat.le_refl _) (by have := hb.size; have := HLM.out; omega) ⟨0, 0, 0, false⟩)
        unfold opV at HAP
        go_wp2_with fail
        refine Ord.nx_end ?_
        go_wp2_with fail
        refine (HAP.out _ (below_drewN (Below.refl _ _) 1)).mono ?_
        rintro e w4 ⟨rfl, hb4, hs4⟩
        have HB4 := Lib.hid ((HBR.out.trans (HBM.out.mono HBR.out.size)).trans (((below_drewN (Below.refl wm.heap.size wm) 1).mono hB3).trans hb4))
        have HS4 := Lib.hid hs4
        clear hb4 hs4 HAP c0 c3 hls
        by_cases hlt2 : i < n2
        · have hiI2 : (i : Int) < (n2 : Int) := by omega
          obtain ⟨z2, hz2⟩ : ∃ z2, zs2[i]? = some z2 := ⟨_, List.getElem?_eq_getElem (by rw [HL2.out]; exact hlt2)⟩
          obtain ⟨ad2, hA2, x0⟩ := iat_cell (H2.out.below HB4.out) hz2
          subst hA2
          have hin2 := HI2.out z2 (List.mem_of_getElem? hz2)
          clear hz2
          by_cases hz0 : 0 ≤ z2
          · have HD := Lib.hid (HS4.out.do_ HB4.out ⟨4, z2, none, 0, 0, ⟨0, 0, 0, false⟩, none, 0, 0, [], []⟩ ⟨by unfold inI; simp, hin2, BAt.nil_ _ _, rfl, by simp, .inl rfl, rfl, by simp⟩ (by omega) (by omega) (by omega) (by omega))
            go_wp2_with fail
            refine HD.out.mono ?_
            rintro e w5 ⟨rfl, hb5, hs5⟩
            have HB5 := Lib.hid hb5
            have HS5 := Lib.hid hs5
            clear hb5 hs5 HD x0
            go_wp2_with fail
            go_roundg (gk - 1)
            case measure => have := HGI.out; omega
            case rel => exact ⟨i + 1, by have := HGI.out; omega, by go_num, HB5.out, HS5.out.more (by omega) (by omega) (by omega) (by omega)⟩
          · go_wp2_with fail
            go_roundg (gk - 1)
            case measure => have := HGI.out; omega
            case rel => exact ⟨i + 1, by have := HGI.out; omega, by go_num, HB4.out, HS4.out.more (by omega) (by omega) (by omega) (by omega)⟩
        · have hiI2 : ¬ (i : Int) < (n2 : Int) := by omega
          go_wp2_with fail
          go_roundg (gk - 1)
          case measure => have := HGI.out; omega
          case rel => exact ⟨i + 1, by have := HGI.out; omega, by go_num, HB4.out, HS4.out.more (by omega) (by omega) (by omega) (by omega)⟩
    · obtain rfl : i = n1 := by have := HGI.out; omega
      have hiI : ¬ ((i : Nat) : Int) < (i : Int) := by omega
      have hB3 := HSR.out.cells.1
      have HA := Lib.hid (HSR.out.all (by omega) (by omega))
      go_wp2_with fail
      refine HA.out.mono ?_
      rintro e w4 ⟨rfl, hb4⟩
      have HB4 := Lib.hid (HBR.out.trans (hb4.mono hB3))
      clear hb4 HA
      go_wp2_with fail
      go_ret
      exact ⟨rfl, HB4.out⟩
end Go.Proofs.YtgcckfaljfkkhaaDoor.Hot
/- What every law's row shares: a call that returns true and leaves all that was there meets the row's post; arguments opened to bytes and numbers. No program's function is walked here. -/
namespace Go.Proofs.YtgcckfaljfkkhaaDoor.Law
open Go.RowKit Go.ChangeShapes Go.WideShapes Go.ChangeAt Mem
section
variable {H : Type} {enc : TypeId × Value → H} {P : Program}

theorem trodAll_stays (hl : laidOutB P = true) {W W' : World} (hb : Below W.heap.size W W') :
    ∀ (ts : List TypeId) (vs : List Value) (ds : List (DataW H)) (ps : List MemPlace), (∀ t ∈ ts, P.readableRec t = true ∧ t < P.types.size) →
      DataW.TrodAll enc P W 0 (fun _ => true) true ts vs ds ps → (∀ p ∈ ps, p.block < W.heap.size) → ∀ sp : Nat → Bool, (∀ p ∈ ps, sp p.block = true) →
      DataW.TrodAll enc P W' 0 sp true ts vs ds ps
  | [], [], [], ps, _, h, _, _, _ => h
  | t :: ts, v :: vs, d :: ds, ps, hr, h, hlt, sp, hsp => by
    obtain ⟨p, q, hp, hq, rfl⟩ := h
    refine ⟨p, q, ?_, trodAll_stays hl hb ts vs ds q (fun t ht => hr t (List.mem_cons_of_mem _ ht)) hq (fun x hx => hlt x (List.mem_append_right _ hx)) sp (fun x hx => hsp x (List.mem_append_right _ hx)), rfl⟩
    exact WideElems.Trod_stays hl (hr t (List.mem_cons_self ..)).1 (hr t (List.mem_cons_self ..)).2 hp (fun x hx => hb.same (hlt x (List.mem_append_left _ hx))) (fun x hx => hsp x (List.mem_append_left _ hx))
  | [], [], _ :: _, _, _, h, _, _, _ => h.elim
  | [], _ :: _, _, _, _, h, _, _, _ => h.elim
  | _ :: _, [], _, _, _, h, _, _, _ => h.elim
  | _ :: _, _ :: _, [], _, _, h, _, _, _ => h.elim

/-- A LAW's END: it returned true, and all that was there is as it was. -/
theorem post_law {f : Func} {s : ChangeSpec} {apart : Bool} {W W' : World} {args : Array Value} {ds gs : List (DataW H)} {before : List MemPlace} {tb : TypeId}
    (hW : DataW.Whole enc P f.params.toList s.vars apart W args.toList ds gs before) (hv : s.vars = []) (hres : f.resultTypes = #[tb]) (htb : P.underlying tb = some .bool)
    (hfn : s.fn H (ds ++ gs) = { results := [.lit (.bool true)], args := ds }) (hl : laidOutB P = true) (hr : ∀ t ∈ f.params.toList, P.readableRec t = true ∧ t < P.types.size)
    (hb : Below W.heap.size W W') : s.post enc P f apart true false false W args (.bool true) W' := by
  have hlt : ∀ p ∈ before, p.block < W.heap.size := fun p hp => hW.lt p hp
  have hW' := hW
  obtain ⟨p, q, hA, hV, rfl, _, _⟩ := hW
  rw [hv] at hV
  obtain ⟨rfl, rfl⟩ := trodVars_none hV
  refine ⟨ds, [], p ++ [], [], p, [], hW', ?_, ?_, ?_, World.keptBut_mono (fun x hx => ⟨hx, ?_⟩) (hb.frame (· ∈ p ++ [])), fun h => by cases h⟩
  · rw [hfn, hres]
    exact trodAll_mk1 (shut_bool htb true)
  · rw [hfn]
    exact trodAll_stays hl hb _ _ _ _ hr hA (fun x hx => hlt x (List.mem_append_left _ hx)) _ (fun x hx => by simpa using hlt x (List.mem_append_left _ hx))
  · rw [hfn, hv]; rfl
  · exact .inr (.inl (by simpa using hx))

theorem wf_u8 {n : Int} (h : (Lit.int .u8 n).wf = true) : 0 ≤ n ∧ n < 256 := by
  simp [Lit.wf, IntKind.min, IntKind.max, IntKind.signed, IntKind.bits] at h
  omega
/-- A slice of bytes among the arguments. -/
theorem open_bytes {W : World} {r : Reach} {b0 : Nat} {t e : TypeId} {v : Value} {d : DataW H} {ps : List MemPlace} (ht : P.underlying t = some (.slice e)) (he : P.underlying e = some (.int .u8)) (hc : P.cellsOf e = 1)
    (hval : Value.okWide P W r b0 t v) (h : DataW.Trod enc P W 0 (fun _ => true) true t v d ps) :
    ∃ (A : Option Addr) (n cap : Nat) (bs : List UInt8), v = .slice A n cap ∧ BAt W A bs ∧ bs.length = n ∧ n ≤ cap ∧ cap ≤ maxLen ∧
      ((A = none ∧ cap = 0 ∧ d = .nil) ∨ ∃ zs : List Int, d = .slice (lits .u8 (zs.take n)) (lits .u8 (zs.drop n)) ∧ zs.length = cap) := by
  obtain ⟨A, n, cap, rfl⟩ := okWide_slice ht hval
  obtain ⟨fuel, hf⟩ := h
  rcases open_ints ht he hc hf with ⟨hcs, hx⟩ | ⟨a, n', cap', zs, hcs, _, hl, hm, hz, hx, hcell, hwz⟩
  · simp [Value.cells] at hcs
    obtain ⟨rfl, rfl, rfl⟩ := hcs
    simp only [Prod.mk.injEq] at hx
    exact ⟨none, 0, 0, [], rfl, BAt.nil_ _ _, rfl, Nat.le_refl _, by unfold maxLen; omega, .inl ⟨rfl, rfl, hx.1⟩⟩
  · simp [Value.cells] at hcs
    obtain ⟨rfl, rfl, rfl⟩ := hcs
    simp only [Prod.mk.injEq] at hx
    simp only [if_true] at hz
    refine ⟨some a, n, cap, (zs.take n).map fun z => UInt8.ofNat z.toNat, rfl, fun _ => ⟨a, rfl, fun k hk => ?_⟩, by simp; omega, hl, hm, .inr ⟨zs, hx.1, hz⟩⟩
    simp at hk
    rw [hcell k (by omega)]
    have hkz : k < zs.length := by omega
    have hw := wf_u8 (hwz zs[k] (List.getElem_mem hkz))
    have hv := V8_ofInt zs[k] hw.1 hw.2
    simp [List.getD, hkz, List.getElem_take, hk]
    exact hv
theorem wf_u32 {n : Int} (h : (Lit.int .u32 n).wf = true) : 0 ≤ n ∧ n < 4294967296 := by
  simp [Lit.wf, IntKind.min, IntKind.max, IntKind.signed, IntKind.bits] at h
  omega
theorem wf_u64 {n : Int} (h : (Lit.int .u64 n).wf = true) : 0 ≤ n ∧ n < 18446744073709551616 := by
  simp [Lit.wf, IntKind.min, IntKind.max, IntKind.signed, IntKind.bits] at h
  omega
theorem wf_i64 {n : Int} (h : (Lit.int .i64 n).wf = true) : -9223372036854775808 ≤ n ∧ n < 9223372036854775808 := by
  simp [Lit.wf, IntKind.min, IntKind.max, IntKind.signed, IntKind.bits] at h
  omega
/-! ### The form's own reach -/
theorem reach_cons {t : TypeId} {ts : List TypeId} {d : DataW H} {ds : List (DataW H)} (h : (DataW.weightsEach P (t :: ts) (d :: ds)).all (· ≤ reachBytes) = true) :
    (d.weights P t).all (· ≤ reachBytes) = true ∧ (DataW.weightsEach P ts ds).all (· ≤ reachBytes) = true := by
  simp only [DataW.weightsEach, List.all_append, Bool.and_eq_true] at h
  exact h
theorem reach_bytes {t e : TypeId} {A : Option Addr} {n cap : Nat} {d : DataW H} (ht : P.underlying t = some (.slice e)) (hb : P.bytesOf e = 1) (hn : n ≤ cap)
    (hd : (A = none ∧ cap = 0 ∧ d = .nil) ∨ ∃ zs : List Int, d = .slice (lits .u8 (zs.take n)) (lits .u8 (zs.drop n)) ∧ zs.length = cap)
    (h : (d.weights P t).all (· ≤ reachBytes) = true) : cap ≤ 140737488351232 := by
  rcases hd with ⟨_, rfl, _⟩ | ⟨zs, rfl, rfl⟩
  · omega
  · simp only [DataW.weights, ht, hb, List.all_cons, Bool.and_eq_true, decide_eq_true_eq] at h
    have h1 := h.1
    simp [lits, reachBytes] at h1
    omega
/-! ### The bound of the second form -/
theorem bulk_one {d : DataW H} : 1 ≤ Rows.uptoBulk d := by
  cases d with
  | lit l => cases l <;> simp [Rows.uptoBulk]
  | nil => simp [Rows.uptoBulk]
  | ptr d => simp [Rows.uptoBulk]
  | slice elems spare => simp [Rows.uptoBulk]
  | agg parts => simp [Rows.uptoBulk]
  | iface t d => simp [Rows.uptoBulk]
  | map entries => simp [Rows.uptoBulk]
  | held _ => simp [Rows.uptoBulk]
theorem bulk_length (l : List (DataW H)) : l.length ≤ Rows.uptoBulkAll l := by
  induction l with
  | nil => simp [Rows.uptoBulkAll]
  | cons x r ih => have := bulk_one (d := x); simp only [Rows.uptoBulkAll, List.length_cons]; omega
theorem bulk_bytes {A : Option Addr} {n cap : Nat} {d : DataW H} (hn : n ≤ cap)
    (hd : (A = none ∧ cap = 0 ∧ d = .nil) ∨ ∃ zs : List Int, d = .slice (lits .u8 (zs.take n)) (lits .u8 (zs.drop n)) ∧ zs.length = cap) : cap ≤ Rows.uptoBulk d := by
  rcases hd with ⟨_, rfl, _⟩ | ⟨zs, rfl, rfl⟩
  · omega
  · have h1 := bulk_length (lits (H := H) .u8 (zs.take n))
    have h2 := bulk_length (lits (H := H) .u8 (zs.drop n))
    rw [show (lits (H := H) .u8 (zs.take n)).length = (zs.take n).length from by simp [lits]] at h1
    rw [show (lits (H := H) .u8 (zs.drop n)).length = (zs.drop n).length from by simp [lits]] at h2
    rw [List.length_take] at h1
    rw [List.length_drop] at h2
    simp only [Rows.uptoBulk]
    omega
end
end Go.Proofs.YtgcckfaljfkkhaaDoor.Law
/- What the rows of layer 14 share: the tables' cells out of the row's list; a world for the witness. -/
namespace Go.Proofs.YtgcckfaljfkkhaaDoor.Hot
open Go.ChangeShapes Go.WideShapes Go.ChangeAt Go.RowKit Mem
theorem own : ownKnob Tryd.prog.godebug = none := by kernel_rfl
theorem laidOut : laidOutB Tryd.prog = true := by kernel_rfl
theorem gTab : Tryd.prog.globalNamed "muniment/crc.nibbles" = some 1 := by kernel_rfl
theorem gTabType : (Tryd.prog.globals[1]?).map (·.type) = some 125 := by kernel_rfl
theorem gTz : Tryd.prog.globalNamed "math/bits.deBruijn32tab" = some 0 := by kernel_rfl
theorem gTzType : (Tryd.prog.globals[0]?).map (·.type) = some 121 := by kernel_rfl
theorem cellsArr : Tryd.prog.cellsOf 125 = 16 := by kernel_rfl
theorem cellsArr8 : Tryd.prog.cellsOf 121 = 32 := by kernel_rfl
theorem cellsU32 : Tryd.prog.cellsOf 110 = 1 := by kernel_rfl
theorem cellsU8 : Tryd.prog.cellsOf 5 = 1 := by kernel_rfl
theorem cellsI64 : Tryd.prog.cellsOf 3 = 1 := by kernel_rfl
theorem bytesU8 : Tryd.prog.bytesOf 5 = 1 := by kernel_rfl
def nums : List Int := [0, 498536548, 997073096, 651767980, 1994146192, 1802195444, 1303535960, 1342533948, 3988292384, 4027552580, 3604390888, 3412177804, 2607071920, 2262029012, 2685067896, 3183342108]
theorem nums_nib : ∀ i : Fin 16, nums.getD i.val 0 = Crc.U (Crc.nib i.val) := by decide
theorem laidMet_tail {P : Program} {W : World} {x : String × DataW Unit} {rest : List (String × DataW Unit)} (h : laidMet P (x :: rest) W) : laidMet P rest W := by
  obtain ⟨ps, ⟨g', t', cs, fuel, p, q, hg', ht', hvar, hd, hr, hq⟩, hn, hm⟩ := h
  subst hq
  exact ⟨q, hr, (List.nodup_append.1 hn).2.1, fun b off hin => hm b off (List.mem_append_right _ hin)⟩
/-- WHAT THE ROW's LIST GIVES: both tables' cells. -/
theorem table {W : World} (h : laidMetH Tryd.prog [("math/bits.deBruijn32tab", Rows.laid_math_bits_deBruijn32tab), ("muniment/crc.nibbles", Rows.laid_muniment_crc_nibbles)] W) : Tabs W.heap.size W := by
  have h : laidMet Tryd.prog [("math/bits.deBruijn32tab", Rows.laid_math_bits_deBruijn32tab), ("muniment/crc.nibbles", Rows.laid_muniment_crc_nibbles)] W := h
  have hz : Lib.TabIs Tryd.prog W "math/bits.deBruijn32tab" .u8 tzs :=
    Lib.tabIs_of_head gTz gTzType Tryd.underlying121 Tryd.underlying5 cellsU8 cellsArr8 h
  have ht : Lib.TabIs Tryd.prog W "muniment/crc.nibbles" .u32 nums :=
    Lib.tabIs_of_head (rest := []) gTab gTabType Tryd.underlying125 Tryd.underlying110 cellsU32 cellsArr (laidMet_tail h)
  have h1 : Crc.Tab W := by
    intro i hi
    rw [ht.cell gTab i hi, nums_nib ⟨i, hi⟩]
  have h2 : Tz W := fun i hi => hz.cell gTz i hi
  exact ⟨h1, h2, cell_lt (h1 0 (by decide)), cell_lt (h2 0 (by decide))⟩
/-- A variable's cells laid. -/
def layCells (xs : Array Value) : Obj → Obj
  | .cells _ t frozen => .cells xs t frozen
  | o => o
/-- A WORLD FOR THE WITNESS: the settled one, the tables holding what their initialisers lay. -/
noncomputable def laidWorld (os : Os) : World :=
  { World.holding Tryd.prog os ⟨#[], #[], []⟩ with heap := ((World.holding Tryd.prog os ⟨#[], #[], []⟩).heap.modify 1 (layCells #[.int .u32 0, .int .u32 498536548, .int .u32 997073096, .int .u32 651767980, .int .u32 1994146192, .int .u32 1802195444, .int .u32 1303535960, .int .u32 1342533948, .int .u32 3988292384, .int .u32 4027552580, .int .u32 3604390888, .int .u32 3412177804, .int .u32 2607071920, .int .u32 2262029012, .int .u32 2685067896, .int .u32 3183342108])).modify 0 (layCells #[.int .u8 0, .int .u8 1, .int .u8 28, .int .u8 2, .int .u8 29, .int .u8 14, .int .u8 24, .int .u8 3, .int .u8 30, .int .u8 22, .int .u8 20, .int .u8 15, .int .u8 25, .int .u8 17, .int .u8 4, .int .u8 8, .int .u8 31, .int .u8 27, .int .u8 13, .int .u8 23, .int .u8 21, .int .u8 19, .int .u8 16, .int .u8 7, .int .u8 26, .int .u8 12, .int .u8 18, .int .u8 6, .int .u8 11, .int .u8 5, .int .u8 10, .int .u8 9]) }
end Go.Proofs.YtgcckfaljfkkhaaDoor.Hot
/- Opening the arguments of layer 14's laws: numbers, rows of numbers, of places, of bytes, of calls. -/
namespace Go.Proofs.YtgcckfaljfkkhaaDoor.Hot
open Go.ChangeShapes Go.WideShapes Go.ChangeAt Go.RowKit Mem Law Pl
theorem cellsIS : Tryd.prog.cellsOf 34 = 1 := by kernel_rfl
theorem cellsBS : Tryd.prog.cellsOf 41 = 1 := by kernel_rfl
theorem cellsBool : Tryd.prog.cellsOf 4 = 1 := by kernel_rfl
theorem cellsPl : Tryd.prog.cellsOf 36 = 4 := by kernel_rfl
theorem cellsOp : Tryd.prog.cellsOf 53 = 8 := by kernel_rfl
variable {H : Type} {enc : TypeId × Value → H} {P : Program}
theorem bulk_mem {l : List (DataW H)} {d : DataW H} (h : d ∈ l) : Rows.uptoBulk d ≤ Rows.uptoBulkAll l := by
  induction l with
  | nil => cases h
  | cons x r ih =>
    simp only [Rows.uptoBulkAll]
    rcases List.mem_cons.1 h with rfl | h
    · omega
    · have := ih h; omega
theorem list_choose {α : Type} (n : Nat) (Q : Nat → α → Prop) (h : ∀ i, i < n → ∃ x, Q i x) : ∃ l : List α, l.length = n ∧ ∀ (i : Nat) (hi : i < l.length), Q i l[i] := by
  induction n with
  | zero => exact ⟨[], rfl, fun i hi => absurd hi (by simp)⟩
  | succ n ih =>
    obtain ⟨l, hl, hq⟩ := ih fun i hi => h i (by omega)
    obtain ⟨x, hx⟩ := h n (by omega)
    refine ⟨l ++ [x], by simp [hl], fun i hi => ?_⟩
    rcases Nat.lt_or_ge i n with hlt | hge
    · rw [List.getElem_append_left (by omega)]
      exact hq i (by omega)
    · obtain rfl : i = n := by simp [hl] at hi; omega
      simpa [List.getElem_append_right, hl] using hx
/-- A cell that is a slice of bytes. -/
theorem cell_bytes {W : World} {t e : TypeId} {fuel : Nat} {cs : List Value} {x : DataW H × List MemPlace} (ht : P.underlying t = some (.slice e)) (he : P.underlying e = some (.int .u8)) (hc : P.cellsOf e = 1)
    (h : DataW.trod enc P W 0 (fun _ => true) true fuel t cs = some x) :
    ∃ (B : Option Addr) (bs : List UInt8) (c : Nat), cs = [.slice B bs.length c] ∧ BAt W B bs ∧ bs.length ≤ Rows.uptoBulk x.1 := by
  rcases open_ints ht he hc h with ⟨rfl, rfl⟩ | ⟨a, n, cap, zs, rfl, _, hl, hm, hz, rfl, hcell, hwz⟩
  · exact ⟨none, [], 0, rfl, BAt.nil_ _ _, by simp⟩
  · simp only [if_true] at hz
    have hlen : ((zs.take n).map fun z => UInt8.ofNat z.toNat).length = n := by simp; omega
    refine ⟨some a, (zs.take n).map fun z => UInt8.ofNat z.toNat, cap, by rw [hlen], fun _ => ⟨a, rfl, fun k hk => ?_⟩, ?_⟩
    · rw [hlen] at hk
      rw [hcell k (by omega)]
      have hkz : k < zs.length := by omega
      have hw := wf_u8 (hwz zs[k] (List.getElem_mem hkz))
      have hv := V8_ofInt zs[k] hw.1 hw.2
      simp [List.getD, hkz, hk]
      exact hv
    · rw [hlen]
      have h1 := bulk_length (lits (H := H) .u8 (zs.take n))
      rw [show (lits (H := H) .u8 (zs.take n)).length = (zs.take n).length from by simp [lits], List.length_take] at h1
      simp only [Rows.uptoBulk]
      omega
theorem cell_ints {W : World} {t e : TypeId} {cs : List Value} {fuel : Nat} {x : DataW H × List MemPlace} (ht : P.underlying t = some (.slice e)) (he : P.underlying e = some (.int .i64)) (hc : P.cellsOf e = 1)
    (hf : DataW.trod enc P W 0 (fun _ => true) true fuel t cs = some x) :
    ∃ (A : Option Addr) (n cap : Nat) (zs : List Int), cs = [.slice A n cap] ∧ IAt W A zs ∧ zs.length = n ∧ cap ≤ maxLen ∧ n ≤ cap ∧ n ≤ Rows.uptoBulk x.1 ∧ ∀ z ∈ zs, inI z := by
  rcases open_ints ht he hc hf with ⟨hcs, hx⟩ | ⟨a, n', cap', zs, hcs, _, hl, hm, hz, hx, hcell, hwz⟩
  · exact ⟨none, 0, 0, [], hcs, .inl rfl, rfl, by unfold maxLen; omega, Nat.le_refl _, Nat.zero_le _, fun z hz => by simp at hz⟩
  · simp only [if_true] at hz
    refine ⟨some a, n', cap', zs.take n', hcs, .inr ⟨a, rfl, fun k z hk => ?_⟩, by simp; omega, hm, hl, ?_, fun z hz => wf_i64 (hwz z (List.mem_of_mem_take hz))⟩
    · obtain ⟨hk1, hk2⟩ := List.getElem?_eq_some_iff.1 hk
      rw [List.length_take] at hk1
      rw [hcell k (by omega)]
      rw [List.getElem_take] at hk2
      have hkz : k < zs.length := by omega
      rw [List.getD_eq_getElem?_getD, List.getElem?_eq_getElem hkz, hk2]
      rfl
    · subst hx
      have h1 := bulk_length (lits (H := H) .i64 (zs.take n'))
      rw [show (lits (H := H) .i64 (zs.take n')).length = (zs.take n').length from by simp [lits], List.length_take] at h1
      simp only [Rows.uptoBulk]
      omega
set_option maxRecDepth 100000 in
theorem open_is {W : World} {r : Reach} {b0 : Nat} {v : Value} {d : DataW H} {ps : List MemPlace} (hval : Value.okWide Tryd.prog W r b0 34 v) (h : DataW.Trod enc Tryd.prog W 0 (fun _ => true) true 34 v d ps) :
    ∃ (A : Option Addr) (n cap : Nat) (zs : List Int), v = .slice A n cap ∧ IAt W A zs ∧ zs.length = n ∧ cap ≤ maxLen ∧ n ≤ cap ∧ n ≤ Rows.uptoBulk d ∧ ∀ z ∈ zs, inI z := by
  obtain ⟨A, n, cap, rfl⟩ := okWide_slice Tryd.underlying34 hval
  obtain ⟨fuel, hf⟩ := h
  obtain ⟨A', n', cap', zs, hcs, h1⟩ := cell_ints Tryd.underlying34 Tryd.underlying3 cellsI64 hf
  simp [Value.cells] at hcs
  obtain ⟨rfl, rfl, rfl⟩ := hcs
  exact ⟨A, n, cap, zs, rfl, h1⟩
set_option maxRecDepth 100000 in
theorem cell_place {W : World} {fuel : Nat} {cs : List Value} {x : DataW H × List MemPlace} (h : DataW.trod enc Tryd.prog W 0 (fun _ => true) true fuel 36 cs = some x) : ∃ p : Plc, cs = p.cells ∧ inI p.at_ := by
  obtain ⟨xs, k, _, _, hl, hlen, hf⟩ := DataW.trod_struct Tryd.underlying36 h
  rw [cellsPl] at hl
  match xs, hlen with
  | [y0, y1, y2, y3], _ =>
    have g0 : DataW.trod enc Tryd.prog W 0 (fun _ => true) true k 3 ((cs.drop 0).take (Tryd.prog.cellsOf 3)) = some y0 := hf 0 _ rfl
    have g1 : DataW.trod enc Tryd.prog W 0 (fun _ => true) true k 3 ((cs.drop 1).take (Tryd.prog.cellsOf 3)) = some y1 := hf 1 _ rfl
    have g2 : DataW.trod enc Tryd.prog W 0 (fun _ => true) true k 3 ((cs.drop 2).take (Tryd.prog.cellsOf 3)) = some y2 := hf 2 _ rfl
    have g3 : DataW.trod enc Tryd.prog W 0 (fun _ => true) true k 4 ((cs.drop 3).take (Tryd.prog.cellsOf 4)) = some y3 := hf 3 _ rfl
    rw [cellsI64] at g0 g1 g2
    rw [cellsBool] at g3
    obtain ⟨a, e0, _⟩ := DataW.trod_int Tryd.underlying3 g0
    obtain ⟨b, e1, _, w1⟩ := DataW.trod_int Tryd.underlying3 g1
    obtain ⟨c, e2, _⟩ := DataW.trod_int Tryd.underlying3 g2
    obtain ⟨d, e3, _⟩ := DataW.trod_bool Tryd.underlying4 g3
    match cs, hl with
    | [v0, v1, v2, v3], _ =>
      simp at e0 e1 e2 e3
      exact ⟨⟨a, b, c, d⟩, by rw [e0, e1, e2, e3]; rfl, wf_i64 w1⟩
set_option maxRecDepth 100000 in
theorem cell_op {W : World} {fuel : Nat} {cs : List Value} {x : DataW H × List MemPlace} (h : DataW.trod enc Tryd.prog W 0 (fun _ => true) true fuel 53 cs = some x) :
    ∃ o : OpH, cs = o.val.toList ∧ (o.L ≤ Rows.uptoBulk x.1 → o.L ≤ 140737488355327 → OpHOk W o) ∧ o.L ≤ Rows.uptoBulk x.1 := by
  obtain ⟨xs, k, _, hx, hl, hlen, hf⟩ := DataW.trod_struct Tryd.underlying53 h
  rw [cellsOp] at hl
  match xs, hlen with
  | [y0, y1, y2, y3, y4], _ =>
    have g0 : DataW.trod enc Tryd.prog W 0 (fun _ => true) true k 3 ((cs.drop 0).take (Tryd.prog.cellsOf 3)) = some y0 := hf 0 _ rfl
    have g1 : DataW.trod enc Tryd.prog W 0 (fun _ => true) true k 3 ((cs.drop 1).take (Tryd.prog.cellsOf 3)) = some y1 := hf 1 _ rfl
    have g2 : DataW.trod enc Tryd.prog W 0 (fun _ => true) true k 41 ((cs.drop 2).take (Tryd.prog.cellsOf 41)) = some y2 := hf 2 _ rfl
    have g3 : DataW.trod enc Tryd.prog W 0 (fun _ => true) true k 36 ((cs.drop 3).take (Tryd.prog.cellsOf 36)) = some y3 := hf 3 _ rfl
    have g4 : DataW.trod enc Tryd.prog W 0 (fun _ => true) true k 34 ((cs.drop 7).take (Tryd.prog.cellsOf 34)) = some y4 := hf 4 _ rfl
    rw [cellsI64] at g0 g1
    rw [cellsBS] at g2
    rw [cellsPl] at g3
    rw [cellsIS] at g4
    obtain ⟨a0, e0, _, w0⟩ := DataW.trod_int Tryd.underlying3 g0
    obtain ⟨a1, e1, _, w1⟩ := DataW.trod_int Tryd.underlying3 g1
    obtain ⟨B, bs, c, e2, hB, hbk⟩ := cell_bytes Tryd.underlying41 Tryd.underlying5 cellsU8 g2
    obtain ⟨p, e3, _⟩ := cell_place g3
    obtain ⟨AK, nk, ck, zs, e4, hz, hzl, hcm, hnc, _, _⟩ := cell_ints Tryd.underlying34 Tryd.underlying3 cellsI64 g4
    match cs, hl with
    | [v0, v1, v2, v3, v4, v5, v6, v7], _ =>
      simp [Plc.cells] at e0 e1 e2 e3 e4
      obtain ⟨e30, e31, e32, e33⟩ := e3
      refine ⟨⟨a0, a1, B, bs.length, c, p, AK, nk, ck, bs, zs⟩, by rw [e0, e1, e2, e30, e31, e32, e33, e4]; rfl, fun _ hL => ⟨wf_i64 w0, wf_i64 w1, hB, rfl, hL, hz, hzl, ?_⟩, ?_⟩
      · show nk ≤ _
        unfold maxLen at hcm
        omega
      · show bs.length ≤ _
        subst hx
        refine Nat.le_trans hbk ?_
        have := bulk_mem (l := [y0, y1, y2, y3, y4].map (·.1)) (d := y2.1) (by simp)
        simp only [Rows.uptoBulk]
        omega
set_option maxRecDepth 100000 in
/-- A row of calls. -/
theorem open_opsH {W : World} {r : Reach} {b0 : Nat} {v : Value} {d : DataW H} {ps : List MemPlace} (hval : Value.okWide Tryd.prog W r b0 50 v) (h : DataW.Trod enc Tryd.prog W 0 (fun _ => true) true 50 v d ps) (hbd : Rows.uptoBulk d ≤ 140737488355327) :
    ∃ (A : Option Addr) (n cap : Nat) (os : List OpH), v = .slice A n cap ∧ OpsHAt W A os ∧ os.length = n ∧ n ≤ Rows.uptoBulk d ∧ n ≤ cap := by
  obtain ⟨A, n, cap, rfl⟩ := okWide_slice Tryd.underlying50 hval
  obtain ⟨fuel, hf⟩ := h
  rcases DataW.trod_slice Tryd.underlying50 hf with ⟨hcs, hx⟩ | ⟨a, len, cap', elems, rest, m, _, hcs, hx, _, hl, _, hlen, hel, _, _⟩
  · simp [Value.cells] at hcs
    obtain ⟨rfl, rfl, rfl⟩ := hcs
    exact ⟨none, 0, 0, [], rfl, fun i o h => by simp at h, rfl, Nat.zero_le _, Nat.le_refl _⟩
  · simp [Value.cells] at hcs
    obtain ⟨rfl, rfl, rfl⟩ := hcs
    simp only [Prod.mk.injEq] at hx
    have hbulk : Rows.uptoBulk d = Rows.uptoBulkAll (elems.map (·.1)) + Rows.uptoBulkAll (rest.map (·.1)) + 1 := by rw [hx.1]; simp only [Rows.uptoBulk]
    obtain ⟨l, hll, hq⟩ := list_choose (α := OpH) n (fun i o => OpHAt W (a.add (i * 8)) o ∧ OpHOk W o) fun i hi => by
      have h1 := hel i hi
      rw [List.getElem?_eq_getElem (by omega), cellsOp, Option.bind_eq_some_iff] at h1
      obtain ⟨cs', hcs', hy⟩ := h1
      obtain ⟨o, rfl, ho, hoL⟩ := cell_op hy
      have hm := bulk_mem (l := elems.map (·.1)) (List.mem_map.2 ⟨elems[i], List.getElem_mem (by omega), rfl⟩)
      have hc := (World.cells?_some hcs').2.2
      have c0 := hc 0 (by decide)
      rw [show (a.add (i * 8)).add 0 = a.add (i * 8) from rfl] at c0
      exact ⟨o, ⟨c0, hc 1 (by decide), hc 2 (by decide), hc 3 (by decide), hc 4 (by decide), hc 5 (by decide), hc 6 (by decide), hc 7 (by decide)⟩, ho hoL (by omega)⟩
    refine ⟨some a, n, cap, l, rfl, fun i o ho => ?_, hll, ?_, hl⟩
    · obtain ⟨hi, he⟩ := List.getElem?_eq_some_iff.1 ho
      have g := hq i hi
      rw [he] at g
      exact ⟨a, rfl, g.1, g.2⟩
    · have h1 := bulk_length (elems.map (·.1))
      rw [List.length_map] at h1
      omega
end Go.Proofs.YtgcckfaljfkkhaaDoor.Hot
