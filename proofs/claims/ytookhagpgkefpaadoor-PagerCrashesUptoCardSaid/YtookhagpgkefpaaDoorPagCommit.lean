/- The pager's 'Free' and 'Commit'. -/
import Derived.Test.YtookhagpgkefpaaDoorPagPut
import Derived.Test.YtookhagpgkefpaaDoorFold12
namespace Go.Proofs.YtookhagpgkefpaaDoor.Pag
open Go Go.RowKit Mem Pl Disk Crc _root_.Go.Proofs.YtookhagpgkefpaaDoor.Frame
/-- What 'Free' leaves. -/
def FreeP (w : World) (a dev g : Nat) (m : PgM) (page : Int) (e : Ending) (w' : World) : Prop :=
  (m.inUse page = false ∧ e = .returned (.int .i64 90) ∧ w = w') ∨
  (m.inUse page = true ∧ e = .returned (.int .i64 0) ∧ PgB w' g a dev { m with use := setB m.use page.toNat false } ∧ Mods w.heap.size (fun k => k = g) w w')
theorem pfree_any {w : World} {a dev g : Nat} {m : PgM} (x : PgB w g a dev m) (h384 : m.pages ≤ 384) (page : Int) :
    Calls Tryd.prog 16 #[.pointer (some ⟨g, 0, none⟩), .int .i64 page] w (FreeP w a dev g m page) := by
  have HU := Lib.hid (inUse_any x h384 page)
  have HX := Lib.hid x
  clear x
  cases hu : m.inUse page with
  | false =>
    rw [hu] at HU
    have HUF := Lib.hid hu
    clear hu
    go_enter Tryd.func16, Tryd.ntmps16
    go_wp2_with fail
    refine HU.out.mono ?_
    rintro e _ ⟨rfl, rfl⟩
    go_wp2_with fail
    go_ret
    exact .inl ⟨HUF.out, rfl, rfl⟩
  | true =>
    rw [hu] at HU
    obtain ⟨page, rfl, hpl, _⟩ := inUse_nat hu
    have HUF := Lib.hid hu
    have HSET := Lib.hid (set_any HX.out page (by omega) false)
    clear hu
    go_enter Tryd.func16, Tryd.ntmps16
    go_wp2_with fail
    refine HU.out.mono ?_
    rintro e _ ⟨rfl, rfl⟩
    go_wp2_with fail
    refine HSET.out.mono ?_
    rintro e w8 ⟨rfl, hp8, hm8⟩
    have HP8 := Lib.hid hp8
    have HM8 := Lib.hid hm8
    clear hp8 hm8
    go_wp2_with fail
    go_ret
    exact .inr ⟨HUF.out, rfl, HP8.out, HM8.out⟩
theorem tab_below {B : Nat} {w w2 : World} {F : Nat → Prop} (h : Mods w.heap.size F w w2) (hB : B ≤ w.heap.size) (hF : ∀ k, F k → B ≤ k) : Below B w w2 :=
  (h.mono hB fun _ _ h => h).below fun k hk hf => by have := hF k hf; omega
/-- May that page be named as root? -/
def PgM.rootMay (m : PgM) (root : Int) : Bool := decide (root = -1) || m.inUse root
/-- The pager behind a commit. -/
def PgM.commit (m : PgM) (root : Int) : PgM := { m with gen := m.gen + 1, root := root, was := m.use }
/-- The superblock of a commit. -/
def supOf (m : PgM) (root : Int) : List UInt8 := superM (m.gen + 1) (root + 1).toNat m.use
/-- What 'Commit' leaves. -/
def CommitP (B : Nat) (w : World) (F : Nat → Prop) (a : Nat) (pm : PM) (n dev N : Nat) (H : List (List UInt8)) (ws : Ws) (g : Nat) (m : PgM) (root : Int) (e : Ending) (w' : World) : Prop :=
  (m.rootMay root = false ∧ e = .returned (.int .i64 90) ∧ w = w') ∨
  m.rootMay root = true ∧ ∃ (F' : Nat → Prop) (pm' : PM), (∀ k, F' k → F k ∨ w.heap.size ≤ k) ∧ Mods w.heap.size (fun k => F k ∨ k = g) w w' ∧
    ((e = .returned (.int .i64 0) ∧ pm'.off = false ∧ (pm.fuse = none → pm'.fuse = none) ∧ PgSt B w' F' a pm' (n + 3) dev N (setAll [(slotM (m.gen + 1), supOf m root)] (setAll ws H)) [] g (m.commit root)) ∨
     (e = .returned (.int .i64 2) ∧ pm'.off = true ∧ pm.fuse ≠ none ∧ (PgSt B w' F' a pm' (n + 3) dev N H ws g m ∨ PgSt B w' F' a pm' (n + 3) dev N (setAll ws H) [] g m ∨ PgSt B w' F' a pm' (n + 3) dev N (setAll ws H) [(slotM (m.gen + 1), supOf m root)] g m)))
theorem PgB.setAll3 {w : World} {g a dev : Nat} {m : PgM} (x : PgB w g a dev m) (G : Nat) (R : Int) : PgB ((w.setCell ⟨g, 3, none⟩ (.int .u64 (G : Int))).setCell ⟨g, 4, none⟩ (.int .i64 R)) g a dev { m with gen := G, root := R } := (x.setGen G).setRoot R
theorem com_x8 {w w7 : World} {g a dev : Nat} {m : PgM} (x : PgB w g a dev m) {was : List UInt8} (hu : was.length = 48) (h : Blk w7 g 82 ((pgCells a dev m).take 53 ++ was.map B8 ++ (pgCells a dev m).drop (53 + (was.map B8).length)).toArray) : PgB w7 g a dev { m with was := was } := by
  refine ⟨?_, x.ul, hu⟩
  rw [List.length_map, hu, pgCells_was a dev m was x.ul x.wl] at h
  exact h
theorem com_mods {g : Nat} {w w7 : World} {u v : Value} (h : ((w.setCell ⟨g, 3, none⟩ u).setCell ⟨g, 4, none⟩ v).grownBy w7 (some g)) : Mods w.heap.size (fun k => k = g) w w7 :=
  (((Mods.refl w.heap.size (fun k => k = g) w).setCell (.inl rfl) u).setCell (.inl rfl) v).grown h (by simp [World.setCell]) (fun k hk => by injection hk with hk; exact .inl hk.symm)
theorem com_done {B : Nat} {w w7 w8 : World} {F F7 : Nat → Prop} {a : Nat} {pm7 : PM} {n dev N : Nat} {H : List (List UInt8)} {ws : Ws} {g : Nat} {m m' : PgM} (x : PgSt B w7 F7 a pm7 n dev N H ws g m) (hw : w.heap.size ≤ w7.heap.size) (hm : Mods w.heap.size (fun k => F k ∨ k = g) w w7)
    (hp : PgB w8 g a dev m') (hpg : m'.pages = m.pages) (h8 : Mods w7.heap.size (fun k => k = g) w7 w8) : Mods w.heap.size (fun k => F k ∨ k = g) w w8 ∧ PgSt B w8 F7 a pm7 n dev N H ws g m' := by
  refine ⟨hm.trans (h8.mono hw fun k _ hk => .inr hk), ⟨?_, x.disk, hp, x.lt, x.apart, by rw [hpg]; exact x.n384, by rw [hpg]; exact x.fit⟩⟩
  exact ⟨x.st.at_.mods h8 fun k hk hF => ⟨hk, fun e => x.apart (by rw [← e]; exact hF)⟩, x.st.ok, fun k hk => ⟨(x.st.lt k hk).1, Nat.lt_of_lt_of_le (x.st.lt k hk).2 h8.size⟩, x.st.steps, x.st.waits⟩
theorem com_fail {B : Nat} {w w2 w3 w4 : World} {F F2 F4 : Nat → Prop} {a : Nat} {pm4 : PM} {n n4 dev N : Nat} {H H' : List (List UInt8)} {ws vs : Ws} {g : Nat} {m : PgM} {pm : PM} (x : PgSt B w F a pm n dev N H ws g m) (hF2 : ∀ k, F2 k → F k ∨ w.heap.size ≤ k) (hm2 : Mods w.heap.size F w w2) (hb : Below w2.heap.size w2 w3)
    (hF4 : ∀ k, F4 k → F2 k ∨ w3.heap.size ≤ k) (hm4 : Mods w3.heap.size F2 w3 w4) (hst : St B w4 F4 a pm4 n4) (hn : n4 ≤ n + 3) (hd : Disk pm4 dev N H' vs) :
    (∀ k, F4 k → F k ∨ w.heap.size ≤ k) ∧ Mods w.heap.size (fun k => F k ∨ k = g) w w4 ∧ PgSt B w4 F4 a pm4 (n + 3) dev N H' vs g m := by
  have hlt := x.pg.lt
  have h12 := hm2.size
  have h23 := hb.size
  have hg2 : ¬ F2 g := fun hf => by
    rcases hF2 g hf with h | h
    · exact x.apart h
    · omega
  have hF : ∀ k, F4 k → F k ∨ w.heap.size ≤ k := fun k hk => by
    rcases hF4 k hk with h | h
    · exact hF2 k h
    · exact .inr (by omega)
  refine ⟨hF, ?_, st_more hst hn, hd, ((x.pg.mods hm2 hlt x.apart).below hb).mods hm4 (by omega) hg2, x.lt, fun hf => ?_, x.n384, x.fit⟩
  · exact ((hm2.mono (Nat.le_refl _) fun k _ hf => .inl hf).trans (Mods.of_below (hb.mono h12))).trans (hm4.mono (by omega) fun k hk hf => (hF2 k hf).elim .inl fun h => by omega)
  · rcases hF g hf with h | h
    · exact x.apart h
    · omega
set_option maxRecDepth 100000 in
set_option maxHeartbeats 8000000 in
theorem commit_any {B : Nat} {w : World} {F : Nat → Prop} {a : Nat} {pm : PM} {n dev N : Nat} {H : List (List UInt8)} {ws : Ws} {g : Nat} {m : PgM} (x : PgSt B w F a pm n dev N H ws g m) (hB : B ≤ w.heap.size) (hn : n ≤ 800000000) (hon : pm.off = false) (ht : Tab w) (hgc : 0 < B) (hgen : m.gen < 9223372036854775808) (root : Int) :
    Calls Tryd.prog 18 #[.pointer (some ⟨g, 0, none⟩), .int .i64 root] w (CommitP B w F a pm n dev N H ws g m root) := by
  have HU := Lib.hid (inUse_any x.pg x.n384 root)
  have HP := Lib.hid x
  have HON := Lib.hid hon
  have HT := Lib.hid ht
  have hfit := x.fit
  have h384 := x.n384
  have hul := x.pg.ul
  have HUL := Lib.hid hul
  clear x hon ht hul
  cases hm : m.rootMay root with
  | false =>
    have hr1 : ((root != -1) : Bool) = true := by
      unfold PgM.rootMay at hm
      simp at hm
      simpa using hm.1
    have hu : m.inUse root = false := by unfold PgM.rootMay at hm; simp at hm; exact hm.2
    rw [hu] at HU
    have HM := Lib.hid hm
    clear hu hm
    go_enter Tryd.func18, Tryd.ntmps18
    go_wp2_with fail
    refine HU.out.mono ?_
    rintro e _ ⟨rfl, rfl⟩
    go_wp2_with fail
    go_ret
    exact .inl ⟨HM.out, rfl, rfl⟩
  | true =>
    obtain ⟨r1, hr1⟩ : ∃ r1 : Nat, root + 1 = (r1 : Int) ∧ r1 < 65536 := by
      unfold PgM.rootMay at hm
      simp only [Bool.or_eq_true, decide_eq_true_eq] at hm
      rcases hm with h | h
      · exact ⟨0, by omega, by omega⟩
      · obtain ⟨k, rfl, hk, _⟩ := inUse_nat h
        exact ⟨k + 1, by omega, by omega⟩
    obtain ⟨hr1, hr2⟩ := hr1
    have HSUP : Hid (supOf m root = superM (m.gen + 1) r1 m.use) := Lib.hid (by unfold supOf; rw [hr1]; rfl)
    have HM := Lib.hid hm
    have HU2 : Hid (root = -1 ∨ m.inUse root = true) := Lib.hid (by unfold PgM.rootMay at hm; simpa using hm)
    have c0 := HP.out.pg.c0
    have c1 := HP.out.pg.c1
    have HFL := Lib.hid ((HP.out.st.below (below_drewN (Below.refl _ w) 1)).flush hB (by omega) (dev : Int))
    have HCF := Lib.hid (HP.out.disk.flush_cases HON.out)
    clear hm
    by_cases hr : root = -1
    · subst hr
      clear HU2 HU
      go_enter Tryd.func18, Tryd.ntmps18
      go_wp2_with fail
      refine Ord.region_ord [] [0, 1, 2, 3, 4, 5, 6, 7, 8, 9] (by kernel_rfl) (by kernel_rfl) (by kernel_rfl) (by kernel_rfl) (Ord.ord_all [_, _, _, _, _, _, _, _, _, _] rfl (by kernel_rfl) ?_)
      go_wp2_with fail
      refine HFL.out.mono ?_
      rintro e w2 ⟨rfl, hst2, hm2⟩
      have HMO2 : Hid (Mods w.heap.size F w w2) := Lib.hid ((Mods.refl w.heap.size F w).drew.trans hm2)
      have HF2 : Hid (∀ k, Grow F w.drew w2 k → F k ∨ w.heap.size ≤ k) := Lib.hid (fun k hk => hk.imp id fun h => h.1)
      have HST2 := Lib.hid hst2
      clear hst2 hm2
      rcases HCF.out with ⟨he, hd2, hon2, hfu2⟩ | ⟨hfz, he, hd2, hoff2⟩
      · rw [he]
        have HD2 := Lib.hid hd2
        have HON2 := Lib.hid hon2
        have HFU2 := Lib.hid hfu2
        have hs2 := HMO2.out.size
        have HX2 := Lib.hid (HP.out.pg.mods HMO2.out HP.out.pg.lt HP.out.apart)
        have HT2 := Lib.hid (HT.out.below (tab_below HMO2.out hB fun k hk => (HP.out.st.lt k hk).1) hgc)
        clear he hd2 hon2 hfu2 c0 c1
        have c0 := HX2.out.c0
        have c1 := HX2.out.c1
        have c3 := HX2.out.c3
        have hga : IntKind.u64.wrap ((m.gen : Int) + 1) = (m.gen : Int) + 1 := by rw [IntKind.wrap_u64]; omega
        have hsl := slot_any w2.drew (m.gen + 1) (by omega)
        have hsu := super_any w2.drew (m.gen + 1) r1 (-1) m.use (by omega) hr1 hr2 HUL.out (show Tab w2.drew from HT2.out) (show _ < w2.heap.size by omega)
        rw [show ((m.gen + 1 : Nat) : Int) = (m.gen : Int) + 1 by omega] at hsl hsu
        rw [show cellsOf m.use = (m.use.map B8).toArray from rfl] at hsu
        have HSLO := Lib.hid hsl
        have HSUO := Lib.hid hsu
        clear hsl hsu
        go_wp2_with fail
        refine Ord.nx_end ?_
        go_wp2_with fail
        refine Ord.region_ordM [9, 16] [] [0, 1, 2, 3, 4, 5, 6, 7, 8, 10, 11, 12, 13, 14, 15, 9, 16, 17, 18, 19] (by kernel_rfl) (by kernel_rfl) (by kernel_rfl) (by kernel_rfl) (Ord.ord_run [0, 1, 2, 3, 4, 5, 6, 7, 8, 10, 11, 12, 13, 14, 15] [_, _, _, _, _, _, _, _, _, _, _, _, _, _, _] rfl (by kernel_rfl) ?_)
        go_wp2_with
          (refine wpList_load_mid rfl 72 (.tmp 47) rfl g 5 rfl (m.use.map B8) _ (show World.rangeAt _ _ _ _ from HX2.out.drew.range5) Tryd.underlying72 rfl (by rw [bits_size, List.length_map, HUL.out]) ?_)
        refine Ord.nx_ord (Ord.ord_oneM rfl (by kernel_rfl) ?_)
        go_wp2_with fail
        refine HSLO.out.mono ?_
        rintro e _ ⟨rfl, rfl⟩
        go_wp2_with fail
        refine Ord.nx_and (Below.refl _ _) ?_
        refine Ord.ord_oneM rfl (by kernel_rfl) ?_
        go_wp2_with fail
        refine HSUO.out.mono ?_
        rintro e w3 ⟨g3, rfl, ho3, hb3⟩
        have HO3 := Lib.hid ho3
        have HB3 := Lib.hid hb3
        clear ho3 hb3
        go_wp2_with fail
        refine Ord.nx_and HB3.out ?_
        refine Ord.ord_all [_, _, _] rfl (by kernel_rfl) ?_
        go_wp2_with fail
        have hb4 := below_al' (w := w3) (.cells #[.slice (some ⟨g3, 0, none⟩) 64 64] 38)
        have hc4 : (w3.alloc (.cells #[.slice (some ⟨g3, 0, none⟩) 64 64] 38)).cell? ⟨w3.heap.size, 0, none⟩ = some (.slice (some ⟨g3, 0, none⟩) 64 64) := by
          have := Blk.new w3 38 #[.slice (some ⟨g3, 0, none⟩) 64 64]
          rw [this.cell]
          rfl
        have HB4 : Hid (Below w2.heap.size w2 (w3.alloc (.cells #[.slice (some ⟨g3, 0, none⟩) 64 64] 38))) := Lib.hid ((Below.trans (show Below w2.heap.size w2 w2.drew from below_drewN (Below.refl _ _) 1) HB3.out).trans (hb4.mono HB3.out.size))
        have hbt := (HO3.out.below hb4).bat
        generalize w3.alloc (.cells #[.slice (some ⟨g3, 0, none⟩) 64 64] 38) = w4 at *
        have hwr := write_one (HST2.out.below HB4.out) HD2.out (Nat.le_trans (Nat.le_trans hB hs2) HB4.out.size) (show n + 1 ≤ 900000000 by omega) HON2.out (slotM (m.gen + 1)) (by unfold slotM; omega) w3.heap.size 64 _ _ hc4 hbt (superM_len (m.gen + 1) r1 HUL.out)
        have HWR := Lib.hid hwr
        clear hwr hbt hc4 hb4 c0 c1 c3
        refine HWR.out.mono ?_
        rintro e w5 ⟨F5, pm5, hF5, hm5, hst5, ⟨rfl, hd5, hon5, hfu5⟩ | ⟨rfl, hfz5, hoff5, hd5⟩⟩
        · have HF5 := Lib.hid hF5
          have HM5 := Lib.hid hm5
          have HST5 := Lib.hid hst5
          have HD5 := Lib.hid hd5
          have HON5 := Lib.hid hon5
          have HFU5 := Lib.hid hfu5
          have HC := Lib.hid (com_fail HP.out HF2.out HMO2.out HB4.out HF5.out HM5.out HST5.out (Nat.le_refl _) HD5.out)
          obtain ⟨hc1, hc2, hc3⟩ := HC.out
          have HX5 := Lib.hid hc3.pg
          have k3 := HX5.out.c3
          have k4 := HX5.out.c4
          have f3 := HX5.out.blk.frozen 3
          have f4 := HX5.out.blk.frozen 4
          clear hF5 hm5 hst5 hd5 hon5 hfu5 hc1 hc2 hc3
          go_wp2_with fail
          refine Ord.nx_end ?_
          go_wp2_with
            (first
              | (refine wpList_load_mid rfl 72 (.tmp 62) rfl g 5 rfl (m.use.map B8) _ HX5.out.range5 Tryd.underlying72 rfl (by rw [bits_size, List.length_map, HUL.out]) ?_)
              | (refine wpList_store_in rfl 72 (.tmp 69) (.tmp 63) rfl g 53 82 (pgCells a dev { m with gen := m.gen + 1, root := -1 }) (m.use.map B8) rfl rfl (show Blk _ _ _ _ from (HX5.out.setAll3 (m.gen + 1) (-1)).blk) (by rw [pgCells_len]; simp [HX5.out.ul, HX5.out.wl]) (by rw [bits_size, List.length_map, HUL.out]) (cells_one _) ?_
                 intro w9 hk9 hg9 hz9
                 have HX9 := Lib.hid (com_x8 (HX5.out.setAll3 (m.gen + 1) (-1)) HUL.out hk9)
                 have HM9 := Lib.hid (com_mods hg9)
                 clear hk9 hg9 hz9))
          go_ret
          obtain ⟨hc1, hc2, hc3⟩ := HC.out
          obtain ⟨h4, h5⟩ := com_done (m' := m.commit (-1)) hc3 hc2.size hc2 HX9.out rfl HM9.out
          refine .inr ⟨HM.out, _, _, hc1, h4, .inl ⟨rfl, HON5.out, fun h => HFU5.out (HFU2.out h), ?_⟩⟩
          rw [HSUP.out]
          exact h5
        · have HF5 := Lib.hid hF5
          have HM5 := Lib.hid hm5
          have HST5 := Lib.hid hst5
          have HD5 := Lib.hid hd5
          have HOFF5 := Lib.hid hoff5
          have HFZ5 := Lib.hid hfz5
          clear hF5 hm5 hst5 hd5 hoff5 hfz5
          go_wp2_with fail
          refine Ord.nx_end ?_
          go_wp2_with fail
          go_ret
          rcases HD5.out with hd | hd
          · obtain ⟨hc1, hc2, hc3⟩ := com_fail HP.out HF2.out HMO2.out HB4.out HF5.out HM5.out HST5.out (Nat.le_refl _) hd
            exact .inr ⟨HM.out, _, _, hc1, hc2, .inr ⟨rfl, HOFF5.out, fun h => HFZ5.out (HFU2.out h), .inr (.inl hc3)⟩⟩
          · obtain ⟨hc1, hc2, hc3⟩ := com_fail HP.out HF2.out HMO2.out HB4.out HF5.out HM5.out HST5.out (Nat.le_refl _) hd
            exact .inr ⟨HM.out, _, _, hc1, hc2, .inr ⟨rfl, HOFF5.out, fun h => HFZ5.out (HFU2.out h), .inr (.inr (by rw [HSUP.out]; exact hc3))⟩⟩
      · rw [he]
        have HD2 := Lib.hid hd2
        have HOFF2 := Lib.hid hoff2
        have HFZ := Lib.hid hfz
        clear he hd2 hoff2 hfz c0 c1
        go_wp2_with fail
        refine Ord.nx_end ?_
        go_wp2_with fail
        go_ret
        obtain ⟨hc1, hc2, hc3⟩ := com_fail HP.out HF2.out HMO2.out (Below.refl _ _) (fun k h => .inl h) (Mods.refl _ _ _) HST2.out (by omega) HD2.out
        exact .inr ⟨HM.out, _, _, hc1, hc2, .inr ⟨rfl, HOFF2.out, by rw [HFZ.out]; simp, .inl hc3⟩⟩
    · have hrne : ((root != -1) : Bool) = true := by simpa using hr
      have hu : m.inUse root = true := HU2.out.resolve_left hr
      rw [hu] at HU
      clear HU2 hu
      go_enter Tryd.func18, Tryd.ntmps18
      go_wp2_with fail
      refine HU.out.mono ?_
      rintro e _ ⟨rfl, rfl⟩
      go_wp2_with fail
      refine Ord.region_ord [] [0, 1, 2, 3, 4, 5, 6, 7, 8, 9] (by kernel_rfl) (by kernel_rfl) (by kernel_rfl) (by kernel_rfl) (Ord.ord_all [_, _, _, _, _, _, _, _, _, _] rfl (by kernel_rfl) ?_)
      go_wp2_with fail
      refine HFL.out.mono ?_
      rintro e w2 ⟨rfl, hst2, hm2⟩
      have HMO2 : Hid (Mods w.heap.size F w w2) := Lib.hid ((Mods.refl w.heap.size F w).drew.trans hm2)
      have HF2 : Hid (∀ k, Grow F w.drew w2 k → F k ∨ w.heap.size ≤ k) := Lib.hid (fun k hk => hk.imp id fun h => h.1)
      have HST2 := Lib.hid hst2
      clear hst2 hm2
      rcases HCF.out with ⟨he, hd2, hon2, hfu2⟩ | ⟨hfz, he, hd2, hoff2⟩
      · rw [he]
        have HD2 := Lib.hid hd2
        have HON2 := Lib.hid hon2
        have HFU2 := Lib.hid hfu2
        have hs2 := HMO2.out.size
        have HX2 := Lib.hid (HP.out.pg.mods HMO2.out HP.out.pg.lt HP.out.apart)
        have HT2 := Lib.hid (HT.out.below (tab_below HMO2.out hB fun k hk => (HP.out.st.lt k hk).1) hgc)
        clear he hd2 hon2 hfu2 c0 c1
        have c0 := HX2.out.c0
        have c1 := HX2.out.c1
        have c3 := HX2.out.c3
        have hga : IntKind.u64.wrap ((m.gen : Int) + 1) = (m.gen : Int) + 1 := by rw [IntKind.wrap_u64]; omega
        have hsl := slot_any w2.drew (m.gen + 1) (by omega)
        have hsu := super_any w2.drew (m.gen + 1) r1 root m.use (by omega) hr1 hr2 HUL.out (show Tab w2.drew from HT2.out) (show _ < w2.heap.size by omega)
        rw [show ((m.gen + 1 : Nat) : Int) = (m.gen : Int) + 1 by omega] at hsl hsu
        rw [show cellsOf m.use = (m.use.map B8).toArray from rfl] at hsu
        have HSLO := Lib.hid hsl
        have HSUO := Lib.hid hsu
        clear hsl hsu
        go_wp2_with fail
        refine Ord.nx_end ?_
        go_wp2_with fail
        refine Ord.region_ordM [9, 16] [] [0, 1, 2, 3, 4, 5, 6, 7, 8, 10, 11, 12, 13, 14, 15, 9, 16, 17, 18, 19] (by kernel_rfl) (by kernel_rfl) (by kernel_rfl) (by kernel_rfl) (Ord.ord_run [0, 1, 2, 3, 4, 5, 6, 7, 8, 10, 11, 12, 13, 14, 15] [_, _, _, _, _, _, _, _, _, _, _, _, _, _, _] rfl (by kernel_rfl) ?_)
        go_wp2_with
          (refine wpList_load_mid rfl 72 (.tmp 47) rfl g 5 rfl (m.use.map B8) _ (show World.rangeAt _ _ _ _ from HX2.out.drew.range5) Tryd.underlying72 rfl (by rw [bits_size, List.length_map, HUL.out]) ?_)
        refine Ord.nx_ord (Ord.ord_oneM rfl (by kernel_rfl) ?_)
        go_wp2_with fail
        refine HSLO.out.mono ?_
        rintro e _ ⟨rfl, rfl⟩
        go_wp2_with fail
        refine Ord.nx_and (Below.refl _ _) ?_
        refine Ord.ord_oneM rfl (by kernel_rfl) ?_
        go_wp2_with fail
        refine HSUO.out.mono ?_
        rintro e w3 ⟨g3, rfl, ho3, hb3⟩
        have HO3 := Lib.hid ho3
        have HB3 := Lib.hid hb3
        clear ho3 hb3
        go_wp2_with fail
        refine Ord.nx_and HB3.out ?_
        refine Ord.ord_all [_, _, _] rfl (by kernel_rfl) ?_
        go_wp2_with fail
        have hb4 := below_al' (w := w3) (.cells #[.slice (some ⟨g3, 0, none⟩) 64 64] 38)
        have hc4 : (w3.alloc (.cells #[.slice (some ⟨g3, 0, none⟩) 64 64] 38)).cell? ⟨w3.heap.size, 0, none⟩ = some (.slice (some ⟨g3, 0, none⟩) 64 64) := by
          have := Blk.new w3 38 #[.slice (some ⟨g3, 0, none⟩) 64 64]
          rw [this.cell]
          rfl
        have HB4 : Hid (Below w2.heap.size w2 (w3.alloc (.cells #[.slice (some ⟨g3, 0, none⟩) 64 64] 38))) := Lib.hid ((Below.trans (show Below w2.heap.size w2 w2.drew from below_drewN (Below.refl _ _) 1) HB3.out).trans (hb4.mono HB3.out.size))
        have hbt := (HO3.out.below hb4).bat
        generalize w3.alloc (.cells #[.slice (some ⟨g3, 0, none⟩) 64 64] 38) = w4 at *
        have hwr := write_one (HST2.out.below HB4.out) HD2.out (Nat.le_trans (Nat.le_trans hB hs2) HB4.out.size) (show n + 1 ≤ 900000000 by omega) HON2.out (slotM (m.gen + 1)) (by unfold slotM; omega) w3.heap.size 64 _ _ hc4 hbt (superM_len (m.gen + 1) r1 HUL.out)
        have HWR := Lib.hid hwr
        clear hwr hbt hc4 hb4 c0 c1 c3
        refine HWR.out.mono ?_
        rintro e w5 ⟨F5, pm5, hF5, hm5, hst5, ⟨rfl, hd5, hon5, hfu5⟩ | ⟨rfl, hfz5, hoff5, hd5⟩⟩
        · have HF5 := Lib.hid hF5
          have HM5 := Lib.hid hm5
          have HST5 := Lib.hid hst5
          have HD5 := Lib.hid hd5
          have HON5 := Lib.hid hon5
          have HFU5 := Lib.hid hfu5
          have HC := Lib.hid (com_fail HP.out HF2.out HMO2.out HB4.out HF5.out HM5.out HST5.out (Nat.le_refl _) HD5.out)
          obtain ⟨hc1, hc2, hc3⟩ := HC.out
          have HX5 := Lib.hid hc3.pg
          have k3 := HX5.out.c3
          have k4 := HX5.out.c4
          have f3 := HX5.out.blk.frozen 3
          have f4 := HX5.out.blk.frozen 4
          clear hF5 hm5 hst5 hd5 hon5 hfu5 hc1 hc2 hc3
          go_wp2_with fail
          refine Ord.nx_end ?_
          go_wp2_with
            (first
              | (refine wpList_load_mid rfl 72 (.tmp 62) rfl g 5 rfl (m.use.map B8) _ HX5.out.range5 Tryd.underlying72 rfl (by rw [bits_size, List.length_map, HUL.out]) ?_)
              | (refine wpList_store_in rfl 72 (.tmp 69) (.tmp 63) rfl g 53 82 (pgCells a dev { m with gen := m.gen + 1, root := root }) (m.use.map B8) rfl rfl (show Blk _ _ _ _ from (HX5.out.setAll3 (m.gen + 1) root).blk) (by rw [pgCells_len]; simp [HX5.out.ul, HX5.out.wl]) (by rw [bits_size, List.length_map, HUL.out]) (cells_one _) ?_
                 intro w9 hk9 hg9 hz9
                 have HX9 := Lib.hid (com_x8 (HX5.out.setAll3 (m.gen + 1) root) HUL.out hk9)
                 have HM9 := Lib.hid (com_mods hg9)
                 clear hk9 hg9 hz9))
          go_ret
          obtain ⟨hc1, hc2, hc3⟩ := HC.out
          obtain ⟨h4, h5⟩ := com_done (m' := m.commit root) hc3 hc2.size hc2 HX9.out rfl HM9.out
          refine .inr ⟨HM.out, _, _, hc1, h4, .inl ⟨rfl, HON5.out, fun h => HFU5.out (HFU2.out h), ?_⟩⟩
          rw [HSUP.out]
          exact h5
        · have HF5 := Lib.hid hF5
          have HM5 := Lib.hid hm5
          have HST5 := Lib.hid hst5
          have HD5 := Lib.hid hd5
          have HOFF5 := Lib.hid hoff5
          have HFZ5 := Lib.hid hfz5
          clear hF5 hm5 hst5 hd5 hoff5 hfz5
          go_wp2_with fail
          refine Ord.nx_end ?_
          go_wp2_with fail
          go_ret
          rcases HD5.out with hd | hd
          · obtain ⟨hc1, hc2, hc3⟩ := com_fail HP.out HF2.out HMO2.out HB4.out HF5.out HM5.out HST5.out (Nat.le_refl _) hd
            exact .inr ⟨HM.out, _, _, hc1, hc2, .inr ⟨rfl, HOFF5.out, fun h => HFZ5.out (HFU2.out h), .inr (.inl hc3)⟩⟩
          · obtain ⟨hc1, hc2, hc3⟩ := com_fail HP.out HF2.out HMO2.out HB4.out HF5.out HM5.out HST5.out (Nat.le_refl _) hd
            exact .inr ⟨HM.out, _, _, hc1, hc2, .inr ⟨rfl, HOFF5.out, fun h => HFZ5.out (HFU2.out h), .inr (.inr (by rw [HSUP.out]; exact hc3))⟩⟩
      · rw [he]
        have HD2 := Lib.hid hd2
        have HOFF2 := Lib.hid hoff2
        have HFZ := Lib.hid hfz
        clear he hd2 hoff2 hfz c0 c1
        go_wp2_with fail
        refine Ord.nx_end ?_
        go_wp2_with fail
        go_ret
        obtain ⟨hc1, hc2, hc3⟩ := com_fail HP.out HF2.out HMO2.out (Below.refl _ _) (fun k h => .inl h) (Mods.refl _ _ _) HST2.out (by omega) HD2.out
        exact .inr ⟨HM.out, _, _, hc1, hc2, .inr ⟨rfl, HOFF2.out, by rw [HFZ.out]; simp, .inl hc3⟩⟩
end Go.Proofs.YtookhagpgkefpaaDoor.Pag
