/- The pager's 'write' of one sector. -/
import Derived.Test.YtookhagpgkefpaaDoorPagRd
import Derived.Test.YtookhagpgkefpaaDoorFold8
import Derived.Test.YtookhagpgkefpaaDoorFold5
namespace Go.Proofs.YtookhagpgkefpaaDoor.Pag
open Go Go.RowKit Mem Pl Disk Crc _root_.Go.Proofs.YtookhagpgkefpaaDoor.Frame
/-- What 'write' of one sector leaves. -/
def WroteP (B : Nat) (w : World) (F : Nat → Prop) (a : Nat) (pm : PM) (n dev N : Nat) (H : List (List UInt8)) (ws : Ws) (k : Nat) (b : List UInt8) (e : Ending) (w' : World) : Prop :=
  ∃ (F' : Nat → Prop) (pm' : PM), (∀ g, F' g → F g ∨ w.heap.size ≤ g) ∧ Mods w.heap.size F w w' ∧ St B w' F' a pm' (n + 2) ∧
    ((e = .returned (.int .i64 0) ∧ Disk pm' dev N (setAll (ws ++ [(k, b)]) H) [] ∧ pm'.off = false ∧ (pm.fuse = none → pm'.fuse = none)) ∨
     (e = .returned (.int .i64 2) ∧ pm.fuse ≠ none ∧ pm'.off = true ∧ (Disk pm' dev N H ws ∨ Disk pm' dev N H (ws ++ [(k, b)]))))
def WrR (B : Nat) (w : World) (F : Nat → Prop) (a : Nat) (pm : PM) (n dev N : Nat) (H : List (List UInt8)) (ws : Ws) (k : Nat) (b : List UInt8) (iv : Value) (wr : World) : Prop :=
  (iv = .int .i64 0 ∧ wr = w) ∨
  (iv = .int .i64 1 ∧ ∃ (F' : Nat → Prop) (pm' : PM), (∀ g, F' g → F g ∨ w.heap.size ≤ g) ∧ Mods w.heap.size F w wr ∧ St B wr F' a pm' (n + 1) ∧ Disk pm' dev N H (ws ++ [(k, b)]) ∧ pm'.off = false ∧ (pm.fuse = none → pm'.fuse = none))
theorem grow_new {w w' : World} {F : Nat → Prop} : ∀ g, Grow F w w' g → F g ∨ w.heap.size ≤ g := fun g hg => by
  rcases hg with hg | hg
  · exact .inl hg
  · exact .inr hg.1
theorem st_more {B : Nat} {w : World} {G : Nat → Prop} {c m k : Nat} {q : PM} (hq : St B w G c q m) (h : m ≤ k) : St B w G c q k := ⟨hq.at_, hq.ok, hq.lt, Nat.le_trans hq.steps h, Nat.le_trans hq.waits h⟩
set_option maxRecDepth 100000 in
set_option maxHeartbeats 4000000 in
theorem write_one {B : Nat} {w : World} {F : Nat → Prop} {a : Nat} {pm : PM} {n dev N : Nat} {H : List (List UInt8)} {ws : Ws} (hst : St B w F a pm n) (hd : Disk pm dev N H ws) (hB : B ≤ w.heap.size) (hn : n ≤ 900000000) (hon : pm.off = false) (k : Nat) (hk : k < N)
    (r cap : Nat) (A : Option Addr) (b : List UInt8) (hc : w.cell? ⟨r, 0, none⟩ = some (.slice A 64 cap)) (hb : BAt w A b) (hl : b.length = 64) :
    Calls Tryd.prog 34 #[.pointer (some ⟨a, 0, none⟩), .int .i64 (dev : Int), .int .i64 (k : Int), .slice (some ⟨r, 0, none⟩) 1 1] w (WroteP B w F a pm n dev N H ws k b) := by
  have HST := Lib.hid hst
  have HD := Lib.hid hd
  have HON := Lib.hid hon
  have HWR := Lib.hid (hst.write hB (by omega) (dev : Int) (k : Int) A 64 cap b hb hl)
  have hcs := hd.write_cases hon hk hl
  have HCS := Lib.hid hcs
  have hN4 := (hd.size hst.ok).2
  clear hst hd hon hb hl hcs
  go_enter Tryd.func34, Tryd.ntmps34
  go_wp2_with fail
  go_loopw [14] (fun iv wr => WrR B w F a pm n dev N H ws k b iv wr) (fun iv _ => 1 - (intOf iv).toNat)
  case atStart => exact .inl ⟨rfl, rfl⟩
  case round =>
    rcases hrel with ⟨rfl, rfl⟩ | ⟨rfl, F', pm', hF', hmo, hst, hdk, hon, hfu⟩
    · go_wp2_with fail
      refine HWR.out.mono ?_
      rintro e w2 ⟨rfl, hst2, hm2⟩
      rcases HCS.out with ⟨he, hd2, hon2, hfu2⟩ | ⟨hfz, he, hd2, hoff2⟩
      · rw [he]
        have HST2 := Lib.hid hst2
        have HM2 := Lib.hid hm2
        have HD2 := Lib.hid hd2
        have HON2 := Lib.hid hon2
        have HFU2 := Lib.hid hfu2
        clear he hst2 hm2 hd2 hon2 hfu2
        go_wp2_with fail
        go_roundw
        case rel => exact .inr ⟨rfl, _, _, grow_new, HM2.out, HST2.out, HD2.out, HON2.out, HFU2.out⟩
        case measure => simp [intOf]
      · rw [he]
        have HST2 := Lib.hid hst2
        have HM2 := Lib.hid hm2
        have HD2 := Lib.hid hd2
        have HOFF2 := Lib.hid hoff2
        have HFZ := Lib.hid hfz
        clear he hst2 hm2 hd2 hoff2 hfz
        go_wp2_with fail
        go_ret
        exact ⟨_, _, grow_new, HM2.out, st_more HST2.out (by omega), .inr ⟨rfl, by rw [HFZ.out]; simp, HOFF2.out, .inl HD2.out⟩⟩
    · have HF' := Lib.hid hF'
      have HMO := Lib.hid hmo
      have HST1 := Lib.hid hst
      have HD1 := Lib.hid hdk
      have HON1 := Lib.hid hon
      have HFU1 := Lib.hid hfu
      have HFL := Lib.hid (hst.flush (Nat.le_trans hB hmo.size) (by omega) (dev : Int))
      have HCF := Lib.hid (hdk.flush_cases hon)
      have hsz := hmo.size
      clear hF' hmo hst hdk hon hfu hc
      go_wp2_with fail
      refine HFL.out.mono ?_
      rintro e w2 ⟨rfl, hst2, hm2⟩
      have HMO2 : Hid (Mods w.heap.size F w w2) := Lib.hid (HMO.out.trans (hm2.mono hsz fun g hg hf => (HF'.out g hf).elim id (fun h => by omega)))
      have HF2 : Hid (∀ g, Grow F' wr w2 g → F g ∨ w.heap.size ≤ g) := Lib.hid (fun g hg => by
        rcases hg with hg | hg
        · exact HF'.out g hg
        · exact .inr (by have := hg.1; omega))
      have HST2 := Lib.hid hst2
      clear hst2 hm2
      rcases HCF.out with ⟨he, hd2, hon2, hfu2⟩ | ⟨hfz, he, hd2, hoff2⟩
      · rw [he]
        have HD2 := Lib.hid hd2
        have HON2 := Lib.hid hon2
        have HFU2 := Lib.hid hfu2
        clear he hd2 hon2 hfu2
        go_wp2_with fail
        go_ret
        exact ⟨_, _, HF2.out, HMO2.out, HST2.out, .inl ⟨rfl, HD2.out, HON2.out, fun h => HFU2.out (HFU1.out h)⟩⟩
      · rw [he]
        have HD2 := Lib.hid hd2
        have HOFF2 := Lib.hid hoff2
        have HFZ := Lib.hid hfz
        clear he hd2 hoff2 hfz
        go_wp2_with fail
        go_ret
        refine ⟨_, _, HF2.out, HMO2.out, HST2.out, .inr ⟨rfl, fun e => ?_, HOFF2.out, .inr HD2.out⟩⟩
        have := HFU1.out e
        rw [HFZ.out] at this
        cases this
end Go.Proofs.YtookhagpgkefpaaDoor.Pag
/- The pager's 'Format'. -/
namespace Go.Proofs.YtookhagpgkefpaaDoor.Pag
open Go Go.RowKit Mem Pl Disk Crc _root_.Go.Proofs.YtookhagpgkefpaaDoor.Frame
/-- The generation that 'Format' writes: one more than any that is there. -/
def nx (x : Nat) (b : List UInt8) : Nat := if okSup b then max x (be (b.take 8) + 1) else x
def nxs (f : Nat → List UInt8) : Nat → Nat
  | 0 => 1
  | i + 1 => nx (nxs f i) (f i)
theorem okSup_lt {b : List UInt8} (h : okSup b = true) : 0 < be (b.take 8) ∧ be (b.take 8) < 9223372036854775808 := by
  unfold okSup at h
  simp at h
  exact ⟨h.1.1, h.1.2⟩
theorem nxs_lt (f : Nat → List UInt8) : ∀ i, 1 ≤ nxs f i ∧ nxs f i ≤ 9223372036854775808
  | 0 => by unfold nxs; omega
  | i + 1 => by
    have := nxs_lt f i
    show 1 ≤ nx (nxs f i) (f i) ∧ nx (nxs f i) (f i) ≤ 9223372036854775808
    unfold nx
    split
    · rename_i h
      have := okSup_lt h
      omega
    · exact this
/-- The sectors as they are read. -/
def virt (H : List (List UInt8)) (ws : Ws) (k : Nat) : List UInt8 := lastAt ws k (H.getD k zeros)
theorem in_disks {pm : PM} {dev N : Nat} {H : List (List UInt8)} {ws : Ws} (hd : Disk pm dev N H ws) (hok : pm.Ok) : pm.disks[dev]? = some N := by
  have h1 := hok.tape dev _ hd.dev
  have h2 := (hok.most dev _ hd.dev).1
  have h3 : dev < pm.disks.length := by
    have : decide (pm.disks.length ≤ dev) = false := h1.symm
    simpa using this
  rw [List.getElem?_append_left h3] at h2
  exact h2
theorem pagesM_disk {pm : PM} {dev N : Nat} {H : List (List UInt8)} {ws : Ws} (hd : Disk pm dev N H ws) (hok : pm.Ok) : pagesM pm.disks (dev : Int) = min ((N - 2) / 8) 384 := by
  have h := in_disks hd hok
  have hl := (List.getElem?_eq_some_iff.1 h).1
  unfold pagesM
  rw [if_pos (by omega)]
  simp [List.getD_eq_getElem?_getD, h]
theorem fit_alloc {w w' : World} {o : Obj} (hg : (w.alloc o).grownBy w' (some w.heap.size)) : Below w.heap.size w w' :=
  (below_al' o).grown hg (by simp) (fun k hk => by injection hk with hk; omega)
def FmtR (w : World) (f : Nat → List UInt8) (nv iv : Value) (wr : World) : Prop := ∃ i : Nat, i ≤ 2 ∧ iv = .int .i64 (i : Int) ∧ nv = .int .u64 (nxs f i : Int) ∧ Below w.heap.size w wr
theorem format_no {w : World} {F : Nat → Prop} {a : Nat} {pm : PM} (hp : PlantAt w F a pm) (hok : pm.Ok) (dev : Int) (h0 : pagesM pm.disks dev = 0) :
    Calls Tryd.prog 10 #[.pointer (some ⟨a, 0, none⟩), .int .i64 dev] w fun e w' => e = .returned (.int .i64 1) ∧ Below w.heap.size w w' := by
  have h1 := pagesOf_any hp hok dev
  rw [h0] at h1
  have H1 := Lib.hid h1
  clear h1 hp hok h0
  go_enter Tryd.func10, Tryd.ntmps10
  go_wp2_with fail
  refine H1.out.mono ?_
  rintro e w1 ⟨rfl, hb1⟩
  go_wp2_with fail
  go_ret
  exact ⟨rfl, hb1⟩
/-- No page. -/
def no48 : List UInt8 := List.replicate 48 0
theorem no48_len : no48.length = 48 := by simp [no48]
theorem run_zeroBits (w : World) : (Instr.build 72 #[]).run Tryd.prog w = .ok (.agg (cellsOf no48)) w := by kernel_rfl
theorem WroteP.of_below {B : Nat} {w w1 : World} {F : Nat → Prop} {a : Nat} {pm : PM} {n dev N : Nat} {H : List (List UInt8)} {ws : Ws} {k : Nat} {b : List UInt8} {e : Ending} {w' : World} (h : WroteP B w1 F a pm n dev N H ws k b e w') (hb : Below w.heap.size w w1) : WroteP B w F a pm n dev N H ws k b e w' := by
  obtain ⟨F', pm', h1, h2, h3, h4⟩ := h
  exact ⟨F', pm', fun g hg => (h1 g hg).imp id fun h => Nat.le_trans hb.size h, (Mods.of_below hb).trans (h2.mono hb.size fun _ _ h => h), h3, h4⟩
set_option maxRecDepth 100000 in
set_option maxHeartbeats 8000000 in
theorem format_on {B : Nat} {w : World} {F : Nat → Prop} {a : Nat} {pm : PM} {n dev N : Nat} {H : List (List UInt8)} {ws : Ws} (hst : St B w F a pm n) (hd : Disk pm dev N H ws) (hB : B ≤ w.heap.size) (hn : n ≤ 900000000) (hon : pm.off = false)
    (h10 : 10 ≤ N) (ht : Tab w) (hgc : 0 < w.heap.size) (hnx : nxs (virt H ws) 2 < 4611686018427387904) :
    Calls Tryd.prog 10 #[.pointer (some ⟨a, 0, none⟩), .int .i64 (dev : Int)] w (WroteP B w F a pm n dev N H ws (slotM (nxs (virt H ws) 2)) (superM (nxs (virt H ws) 2) 0 no48)) := by
  obtain ⟨X, hX⟩ : ∃ X, nxs (virt H ws) 2 = X := ⟨_, rfl⟩
  have hX1 := (nxs_lt (virt H ws) 2).1
  rw [hX] at hnx hX1 ⊢
  have HX2 := Lib.hid hX
  have HST := Lib.hid hst
  have HD := Lib.hid hd
  have HON := Lib.hid hon
  have HT := Lib.hid ht
  have hpg := pagesOf_any hst.at_ hst.ok (dev : Int)
  rw [pagesM_disk hd hst.ok] at hpg
  obtain ⟨q, hq⟩ : ∃ q, min ((N - 2) / 8) 384 = q := ⟨_, rfl⟩
  rw [hq] at hpg
  have HPG := Lib.hid hpg
  have hq1 : ((q : Int) == 0) = false := beq_eq_false_iff_ne.2 (by omega)
  clear hst hd hon ht hX hpg hq
  go_enter Tryd.func10, Tryd.ntmps10
  go_wp2_with fail
  refine HPG.out.mono ?_
  rintro e w1 ⟨rfl, hb1⟩
  have HB1 := Lib.hid hb1
  clear hb1
  go_wp2_with fail
  go_loopw [5, 18] (fun nv iv wr => FmtR w (virt H ws) nv iv wr) (fun _ iv _ => 2 - (intOf iv).toNat)
  case atStart => exact ⟨0, by omega, rfl, rfl, HB1.out⟩
  case round =>
    obtain ⟨i, hi, rfl, rfl, hbw⟩ := hrel
    have HBW := Lib.hid hbw
    clear hbw
    by_cases hlt : i < 2
    · have hiI : (i : Int) < 2 := by omega
      have hrd := read_on (HST.out.below HBW.out) HD.out (by omega) HON.out i (by omega) (HT.out.below HBW.out hgc) (Nat.lt_of_lt_of_le hgc HBW.out.size)
      rw [show lastAt ws i (H.getD i zeros) = virt H ws i from rfl] at hrd
      unfold supV at hrd
      obtain ⟨x, hx⟩ : ∃ x, nxs (virt H ws) i = x := ⟨_, rfl⟩
      have hxl := nxs_lt (virt H ws) i
      rw [hx] at hxl
      have HX := Lib.hid hx
      obtain ⟨G, hG⟩ : ∃ G, be ((virt H ws i).take 8) = G := ⟨_, rfl⟩
      have HG := Lib.hid hG
      obtain ⟨use, hu⟩ : ∃ use, ((virt H ws i).drop 10).take 48 = use := ⟨_, rfl⟩
      obtain ⟨R, hR⟩ : ∃ R : Int, (be (((virt H ws i).drop 8).take 2) : Int) - 1 = R := ⟨_, rfl⟩
      rw [hG, hu, hR] at hrd
      have H48 : Hid (use.length = 48) := Lib.hid (by rw [← hu]; have h := sec_len HD.out HST.out.ok i; rw [show lastAt ws i (H.getD i zeros) = virt H ws i from rfl] at h; simp [h])
      rw [hx]
      cases hok : okSup (virt H ws i) with
      | false =>
        rw [hok] at hrd
        have HRD := Lib.hid hrd
        have HN : Hid (nxs (virt H ws) (i + 1) = x) := Lib.hid (by show nx (nxs (virt H ws) i) (virt H ws i) = x; unfold nx; rw [hok, hx]; rfl)
        clear hrd hok hx hG hu hR
        go_wp2_with fail
        refine HRD.out.mono ?_
        rintro e w2 ⟨rfl, hb2⟩
        have HB2 := Lib.hid (HBW.out.trans (hb2.mono HBW.out.size))
        clear hb2
        go_wp2_with
          (refine wpList_store_all rfl 72 (.tmp 9) (.tmp 28) rfl w2.heap.size 72 ((List.replicate 48 (0 : UInt8)).map B8) (use.map B8) rfl rfl (Blk.new w2 72 (cellsOf (List.replicate 48 0))) (by rw [List.length_map, H48.out]; rfl) (by rw [bits_size, List.length_map, H48.out]) (cells_one _) ?_
           intro w3 hk3 hg3 hz3
           have HG3 := Lib.hid (fit_alloc hg3)
           clear hk3 hg3 hz3)
        go_roundw
        case rel => exact ⟨i + 1, by omega, by simp, by rw [HN.out], HB2.out.trans (HG3.out.mono HB2.out.size)⟩
        case measure => simp [intOf]; omega
      | true =>
        rw [hok] at hrd
        have HRD := Lib.hid hrd
        have hGl := okSup_lt hok
        rw [hG] at hGl
        obtain ⟨hG1, hG2⟩ := hGl
        have HN : Hid (nxs (virt H ws) (i + 1) = max x (G + 1)) := Lib.hid (by show nx (nxs (virt H ws) i) (virt H ws i) = _; unfold nx; rw [hok, hx, hG]; rfl)
        clear hrd hok hx hG hu hR
        go_wp2_with fail
        refine HRD.out.mono ?_
        rintro e w2 ⟨rfl, hb2⟩
        have HB2 := Lib.hid (HBW.out.trans (hb2.mono HBW.out.size))
        clear hb2
        have hadd : IntKind.u64.wrap ((G : Int) + 1) = (G : Int) + 1 := by rw [IntKind.wrap_u64]; omega
        by_cases hle : G + 1 ≤ x
        · have hle' : (G : Int) + 1 ≤ (x : Int) := by omega
          have HM : Hid (max x (G + 1) = x) := Lib.hid (by omega)
          go_wp2_with
            (refine wpList_store_all rfl 72 (.tmp 9) (.tmp 28) rfl w2.heap.size 72 ((List.replicate 48 (0 : UInt8)).map B8) (use.map B8) rfl rfl (Blk.new w2 72 (cellsOf (List.replicate 48 0))) (by rw [List.length_map, H48.out]; rfl) (by rw [bits_size, List.length_map, H48.out]) (cells_one _) ?_
             intro w3 hk3 hg3 hz3
             have HG3 := Lib.hid (fit_alloc hg3)
             clear hk3 hg3 hz3)
          go_roundw
          case rel => exact ⟨i + 1, by omega, by simp, by rw [HN.out, HM.out], HB2.out.trans (HG3.out.mono HB2.out.size)⟩
          case measure => simp [intOf]; omega
        · have hle' : ¬ (G : Int) + 1 ≤ (x : Int) := by omega
          have HM : Hid (max x (G + 1) = G + 1) := Lib.hid (by omega)
          go_wp2_with
            (refine wpList_store_all rfl 72 (.tmp 9) (.tmp 28) rfl w2.heap.size 72 ((List.replicate 48 (0 : UInt8)).map B8) (use.map B8) rfl rfl (Blk.new w2 72 (cellsOf (List.replicate 48 0))) (by rw [List.length_map, H48.out]; rfl) (by rw [bits_size, List.length_map, H48.out]) (cells_one _) ?_
             intro w3 hk3 hg3 hz3
             have HG3 := Lib.hid (fit_alloc hg3)
             clear hk3 hg3 hz3)
          go_roundw
          case rel => exact ⟨i + 1, by omega, by simp, by rw [HN.out, HM.out]; simp, HB2.out.trans (HG3.out.mono HB2.out.size)⟩
          case measure => simp [intOf]; omega
    · obtain rfl : i = 2 := by omega
      rw [HX2.out]
      have hxI : ¬ (4611686018427387904 : Int) ≤ (X : Int) := by omega
      have hzb := run_zeroBits
      have HSL := Lib.hid (slot_any wr X (by omega))
      have HSU := Lib.hid (super_any wr X 0 (-1) no48 (by omega) rfl (by omega) no48_len (HT.out.below HBW.out hgc) (Nat.lt_of_lt_of_le hgc HBW.out.size))
      go_wp2_with fail
      refine HSL.out.mono ?_
      rintro e _ ⟨rfl, rfl⟩
      go_wp2_with fail
      refine HSU.out.mono ?_
      rintro e w2 ⟨g2, rfl, ho2, hb2⟩
      have HB2 := Lib.hid (HBW.out.trans (hb2.mono HBW.out.size))
      have HO2 := Lib.hid ho2
      clear ho2 hb2
      go_wp2_with fail
      have hb3 := below_al' (w := w2) (.cells #[.slice (some ⟨g2, 0, none⟩) 64 64] 38)
      have hc3 : (w2.alloc (.cells #[.slice (some ⟨g2, 0, none⟩) 64 64] 38)).cell? ⟨w2.heap.size, 0, none⟩ = some (.slice (some ⟨g2, 0, none⟩) 64 64) := by
        have := Blk.new w2 38 #[.slice (some ⟨g2, 0, none⟩) 64 64]
        rw [this.cell]
        rfl
      have HB3 := Lib.hid (HB2.out.trans (hb3.mono HB2.out.size))
      have hbt := (HO2.out.below hb3).bat
      generalize w2.alloc (.cells #[.slice (some ⟨g2, 0, none⟩) 64 64] 38) = w3 at *
      refine (write_one (HST.out.below HB3.out) HD.out (Nat.le_trans hB HB3.out.size) hn HON.out (slotM X) (by unfold slotM; omega) w2.heap.size 64 _ _ hc3 hbt (superM_len X 0 no48_len)).mono ?_
      intro e w4 hw
      have HW := Lib.hid (hw.of_below HB3.out)
      obtain ⟨F', pm', h1, h2, h3, ⟨rfl, h4⟩ | ⟨rfl, h4⟩⟩ := hw
      · clear h1 h2 h3 h4 hb3 hbt hc3
        go_wp2_with fail
        go_ret
        exact HW.out
      · clear h1 h2 h3 h4 hb3 hbt hc3
        go_wp2_with fail
        go_ret
        exact HW.out
end Go.Proofs.YtookhagpgkefpaaDoor.Pag
/- A drawn region walked in one order, under a condition S on the world that all its operations keep: what is read where S holds may be read first. -/
namespace Go.Proofs.YtookhagpgkefpaaDoor.Ord
open Go.RowKit Mem
section
variable {P : Program} {ops : Array Oper} {Q : Exit → Act → World → Prop} {md : Region.Mode} {L M : List Nat} {S : World → Prop}
/-- The one order: each of M yields what it is said to wherever S holds; behind each of L S is shown. -/
def wpOrdS (P : Program) (ops : Array Oper) (Q : Exit → Act → World → Prop) (S : World → Prop) (L M : List Nat) : List Nat → Act → World → Prop
  | [], a, w => Q .normal a w
  | i :: r, a, w => if M.contains i = true then ∃ o v, ops[i]? = some o ∧ YieldsIf P ops S o v a ∧ wpOrdS P ops Q S L M r (a.put o.dst v) w
    else wpOp P ops Q i (fun a' w' => (L.contains i = true → S w') ∧ wpOrdS P ops Q S L M r a' w') a w
def okOrdS (P : Program) (md : Region.Mode) (ops : Array Oper) (L M : List Nat) : List Nat → Array Bool → Bool
  | [], listed => (Region.ready md ops listed).isEmpty
  | i :: r, listed => (match ops[i]? with
    | none => false
    | some o => if M.contains i then (Region.ready md ops listed).contains i && Region.free md ops listed i else if L.contains i then Region.ready md ops listed == [i] else match kindOf P o with
      | .blind => (Region.ready md ops listed).contains i && Region.free md ops listed i
      | _ => false) && okOrdS P md ops L M r (listed.setIfInBounds i true)
theorem anyT_of_ordS (hsel : Region.noSelect ops = true) : ∀ (order : List Nat) (listed : Array Bool) (a : Act) (w : World), S w → okOrdS P md ops L M order listed = true →
    wpOrdS P ops (NP Q) S L M order a w → Held.anyT P md ops (NP Q) S (fun _ => True) ops.size order.length listed a w
  | [], listed, a, w, _, hok, h => ⟨by simpa [okOrdS] using hok, h⟩
  | i :: r, listed, a, w, hS, hok, h => by
    have hsp := Region.noSelect_spec hsel
    unfold okOrdS at hok
    rw [Bool.and_eq_true] at hok
    obtain ⟨h1, h2⟩ := hok
    split at h1
    · cases h1
    · rename_i o ho
      have hin : i ≠ ops.size := by
        intro e
        rw [e] at ho
        simp at ho
      by_cases hM : M.contains i = true
      · rw [if_pos hM, Bool.and_eq_true] at h1
        have hr : i ∈ Region.ready md ops listed := by simpa using h1.1
        unfold wpOrdS at h
        rw [if_pos hM] at h
        obtain ⟨o', v, ho', hy, hK⟩ := h
        have e : o' = o := Option.some.inj (ho'.symm.trans ho)
        subst e
        exact Held.anyT_first S ho hsp (fun _ _ _ x => x) hin r.length listed a w (Region.free_spec ho h1.2) (.inl fun _ x => x) hr hy ⟨hS, fun _ => trivial⟩ (anyT_of_ordS hsel r _ _ _ hS h2 hK)
      rw [if_neg hM] at h1
      unfold wpOrdS at h
      rw [if_neg hM] at h
      by_cases hL : L.contains i = true
      · rw [if_pos hL] at h1
        have hr : Region.ready md ops listed = [i] := by simpa using h1
        refine ⟨fun h0 => absurd h0 (by rw [hr]; simp), fun j hj => ?_⟩
        have hj' : j = i := by rw [hr] at hj; simpa using hj
        subst hj'
        exact wpOp_mono (fun a' w' x => ⟨⟨x.1 hL, fun _ => trivial⟩, anyT_of_ordS hsel r _ _ _ (x.1 hL) h2 x.2⟩) h
      · rw [if_neg hL] at h1
        split at h1
        · rename_i hk
          simp only [Bool.and_eq_true, List.contains_iff_mem] at h1
          have hr : i ∈ Region.ready md ops listed := by simpa using h1.1
          obtain ⟨v, hy, hK⟩ := blind_first ho hk h
          exact Held.anyT_first S ho hsp (fun _ _ _ x => x) hin r.length listed a w (Region.free_spec ho h1.2) (.inl fun _ x => x) hr (hy.imp (fun x => ⟨x.1, fun w _ => x.2 w trivial⟩) id) ⟨hS, fun _ => trivial⟩ (anyT_of_ordS hsel r _ _ _ hS h2 hK.2)
        · cases h1
/-- **A region whose order is drawn, walked in one order, under S.** -/
theorem region_ordS {id : Nat} {a : Act} {w : World} (S : World → Prop) (L M order : List Nat) (hm : P.follows .mixedOrders = true) (hsel : Region.noSelect ops = true) (hlen : order.length = ops.size)
    (hok : okOrdS P .any ops L M order (Array.replicate ops.size false) = true) (hS : S w.drew) (h : wpOrdS P ops (NP Q) S L M order a w.drew) : (Code.region id ops true).wp P Q a w := by
  refine Code.wp_mono NP.imp (wp_region_any hm ?_)
  have := anyT_of_ordS (md := .any) (S := S) hsel order _ a w.drew hS hok h
  exact Held.anyT_any _ _ _ _ (by rw [hlen] at this; exact this)
theorem ordS_run {r : List Nat} : ∀ (l : List Nat) (lops : List Oper) {a : Act} {w : World}, l.map (ops[·]?) = lops.map some → (l.all fun i => !L.contains i && !M.contains i) = true →
    wpList P ops (NX (NP Q) (wpOrdS P ops (NP Q) S L M r)) lops a w → wpOrdS P ops (NP Q) S L M (l ++ r) a w
  | [], [], a, w, _, _, h => h
  | [], _ :: _, a, w, hl, _, h => by cases hl
  | _ :: _, [], a, w, hl, _, h => by cases hl
  | i :: l, o :: lops, a, w, hl, hL, h => by
    simp only [List.map_cons, List.cons.injEq] at hl
    simp only [List.all_cons, Bool.and_eq_true] at hL
    have ih := fun (a' : Act) (w' : World) => ordS_run (r := r) l lops (a := a') (w := w') hl.2 hL.2
    have hnc : L.contains i = false := by simpa using hL.1.1
    have hnm : ¬ M.contains i = true := by simpa using hL.1.2
    show wpOrdS P ops (NP Q) S L M (i :: (l ++ r)) a w
    unfold wpOrdS
    rw [if_neg hnm]
    unfold wpOp
    simp only [hl.1]
    unfold wpList at h
    split
    · rename_i hw
      rw [if_pos hw] at h
      rcases h with h | ⟨_, h⟩
      · exact .inl (wp_next (fun a' w' x => ⟨fun hc => (by rw [hnc] at hc; cases hc), ih a' w' x⟩) h)
      · obtain ⟨_, _, h⟩ := h
        exact (h : False).elim
    · rename_i hw
      rw [if_neg hw] at h
      exact ⟨fun hc => (by rw [hnc] at hc; cases hc), ih _ _ h⟩
/-- An operation of M. -/
theorem ordS_val {i : Nat} {o : Oper} {r : List Nat} {a : Act} {w : World} (v : Value) (hi : ops[i]? = some o) (hM : M.contains i = true) (hy : YieldsIf P ops S o v a) (h : wpOrdS P ops (NP Q) S L M r (a.put o.dst v) w) : wpOrdS P ops (NP Q) S L M (i :: r) a w := by
  unfold wpOrdS
  rw [if_pos hM]
  exact ⟨o, v, hi, hy, h⟩
/-- An operation of L: S is shown behind it. -/
theorem ordS_one {i : Nat} {o : Oper} {r : List Nat} {a : Act} {w : World} (hi : ops[i]? = some o) (hM : M.contains i = false)
    (h : wpList P ops (NX (NP Q) (fun a' w' => S w' ∧ wpOrdS P ops (NP Q) S L M r a' w')) [o] a w) : wpOrdS P ops (NP Q) S L M (i :: r) a w := by
  unfold wpOrdS
  rw [if_neg (by rw [hM]; simp)]
  unfold wpOp
  simp only [hi]
  unfold wpList at h
  split
  · rename_i hw
    rw [if_pos hw] at h
    rcases h with h | ⟨_, h⟩
    · exact .inl (wp_next (fun a' w' x => ⟨fun _ => x.1, x.2⟩) h)
    · obtain ⟨_, _, h⟩ := h
      exact (h : False).elim
  · rename_i hw
    rw [if_neg hw] at h
    exact ⟨fun _ => h.1, h.2⟩
theorem nxS_run {r : List Nat} {a : Act} {w : World} (h : wpOrdS P ops (NP Q) S L M r a w) : NX (NP Q) (wpOrdS P ops (NP Q) S L M r) .normal a w := h
theorem nxS_one {r : List Nat} {a : Act} {w : World} (hS : S w) (h : wpOrdS P ops (NP Q) S L M r a w) : NX (NP Q) (fun a' w' => S w' ∧ wpOrdS P ops (NP Q) S L M r a' w') .normal a w := ⟨hS, h⟩
theorem ordS_end {a : Act} {w : World} (h : Q .normal a w) : wpOrdS P ops (NP Q) S L M [] a w := h
end
end Go.Proofs.YtookhagpgkefpaaDoor.Ord
