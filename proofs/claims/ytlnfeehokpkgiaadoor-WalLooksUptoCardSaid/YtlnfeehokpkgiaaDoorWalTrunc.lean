/- The journal's 'Truncate' and 'Fits'. -/
import Derived.Test.YtlnfeehokpkgiaaDoorWalOpen
namespace Go.Proofs.YtlnfeehokpkgiaaDoor.Wal
open Go Go.RowKit Mem Pl Disk Crc _root_.Go.Proofs.YtlnfeehokpkgiaaDoor.Frame
/-- The frame of a journal's call: the plant's blocks and the journal's own. -/
structure WFr (B : Nat) (w : World) (F : Nat → Prop) (g a : Nat) (pm : PM) (n dev : Nat) (F' : Nat → Prop) (pm' : PM) (w' : World) : Prop where
  grow : ∀ k, F' k → F k ∨ w.heap.size ≤ k
  out : ¬ F' g
  mods : Mods w.heap.size (fun k => F k ∨ k = g) w w'
  st : St B w' F' a pm' n
  els : Others dev pm pm'
  fuse : pm.fuse = none → pm'.fuse = none
  zero : Zero dev pm pm'
section
variable {B : Nat} {w w' : World} {F F' : Nat → Prop} {g a n dev N : Nat} {pm pm' : PM} {m : WM}
theorem Frm.wal (h : Frm B w F a pm n dev F' pm' w') (hg : ¬ F g) (hlt : g < w.heap.size) : WFr B w F g a pm n dev F' pm' w' :=
  ⟨h.grow, fun hF => (h.grow g hF).elim hg fun h => by omega, h.mods.mono (Nat.le_refl _) fun _ _ h => .inl h, h.st, h.els, h.fuse, h.zero⟩
theorem WFr.cell (h : WFr B w F g a pm n dev F' pm' w') (i : Nat) (u : Value) : WFr B w F g a pm n dev F' pm' (w'.setCell ⟨g, i, none⟩ u) := by
  have hm : Mods w'.heap.size (fun j => j = g) w' (w'.setCell ⟨g, i, none⟩ u) := (Mods.refl w'.heap.size (fun j => j = g) w').setCell (p := ⟨g, i, none⟩) (.inl rfl) u
  refine ⟨h.grow, h.out, h.mods.setCell (p := ⟨g, i, none⟩) (.inl (.inr rfl)) u, ⟨h.st.at_.mods hm fun k hk hF => ⟨hk, fun e => ?_⟩, h.st.ok, fun k hk => ⟨(h.st.lt k hk).1, ?_⟩, h.st.steps, h.st.waits⟩, h.els, h.fuse, h.zero⟩
  · subst e
    exact h.out hF
  · simpa using (h.st.lt k hk).2
theorem WFr.refl (h : St B w F a pm n) (hg : ¬ F g) : WFr B w F g a pm n dev F pm w := ⟨fun _ h => .inl h, hg, Mods.refl _ _ _, h, Others.refl _ _, fun h => h, Zero.refl _ _⟩
theorem WFr.below {w1 : World} (h : WFr B w F g a pm n dev F' pm' w1) (hb : Below w1.heap.size w1 w') : WFr B w F g a pm n dev F' pm' w' :=
  ⟨h.grow, h.out, h.mods.then_below hb h.mods.size, h.st.below hb, h.els, h.fuse, h.zero⟩
theorem WFr.more {k : Nat} (h : WFr B w F g a pm n dev F' pm' w') (hn : n ≤ k) : WFr B w F g a pm k dev F' pm' w' := ⟨h.grow, h.out, h.mods, st_more h.st hn, h.els, h.fuse, h.zero⟩
end
/-- What 'Truncate' leaves. -/
def TruncP (B : Nat) (w : World) (F : Nat → Prop) (a : Nat) (pm : PM) (n dev N : Nat) (H : List (List UInt8)) (ws : Ws) (g : Nat) (m : WM) (e : Ending) (w' : World) : Prop :=
  ∃ (F' : Nat → Prop) (pm' : PM), WFr B w F g a pm (n + 2) dev F' pm' w' ∧
    ((e = .returned (.int .i64 0) ∧ Disk pm' dev N (setAll (ws ++ [((m.gen + 1) % 2, hdrB (m.gen + 1) (m.gen + 1))]) H) [] ∧ pm'.off = false ∧ WalB w' g a dev N ⟨m.gen + 1, m.gen + 1, 2, 1⟩) ∨
     (e = .returned (.int .i64 2) ∧ pm.fuse ≠ none ∧ pm'.off = true ∧ (Disk pm' dev N H ws ∨ Disk pm' dev N H (ws ++ [((m.gen + 1) % 2, hdrB (m.gen + 1) (m.gen + 1))])) ∧ WalB w' g a dev N m))
set_option maxRecDepth 100000 in
set_option maxHeartbeats 4000000 in
theorem truncate_on {B : Nat} {w : World} {F : Nat → Prop} {a : Nat} {pm : PM} {n dev N : Nat} {H : List (List UInt8)} {ws : Ws} {g : Nat} {m : WM} (hst : St B w F a pm n) (hd : Disk pm dev N H ws) (hB : B ≤ w.heap.size) (hn : n ≤ 800000000) (hon : pm.off = false) (h2 : 2 ≤ N)
    (hw : WalB w g a dev N m) (hg : ¬ F g) (hgen : m.gen < 4294967296) (ht : Tab w) (hgc : 0 < w.heap.size) :
    Calls Tryd.prog 20 #[.pointer (some ⟨g, 0, none⟩)] w (TruncP B w F a pm n dev N H ws g m) := by
  have hgl : g < w.heap.size := Blk.lt hw
  have HLY := Lib.hid (lay_on (hst.below (below_drewN (Below.refl _ _) 1)) hd (show B ≤ w.drew.heap.size from hB) (by omega) hon h2 (m.gen + 1) (m.gen + 1) (by omega) (by omega) (ht.below (below_drewN (Below.refl _ _) 1) hgc) (show _ < w.drew.heap.size from hgc))
  have HW := Lib.hid hw
  have HG : Hid (¬ F g ∧ g < w.heap.size) := Lib.hid ⟨hg, hgl⟩
  obtain ⟨c0, c1, c2, c3, c4, c5, c6⟩ := hw.cells
  obtain ⟨G, hG⟩ : ∃ G, m.gen + 1 = G := ⟨_, rfl⟩
  have hwG : IntKind.u64.wrap ((m.gen : Int) + 1) = (G : Int) := by rw [IntKind.wrap_u64]; omega
  rw [hG] at HLY
  have HGE := Lib.hid hG
  clear hst hd hon hw hg ht c2 c4 c5 c6 hG hgl
  go_enter Tryd.func20, Tryd.ntmps20
  go_wp2_with fail
  refine Ord.region_ordM [] [12, 17] [0, 1, 2, 3, 4, 5, 6, 7, 8, 9, 10, 11, 13, 14, 15, 16, 12, 17, 18, 19] (by kernel_rfl) (by kernel_rfl) (by kernel_rfl) (by kernel_rfl) (Ord.ord_run [0, 1, 2, 3, 4, 5, 6, 7, 8, 9, 10, 11, 13, 14, 15, 16] [_, _, _, _, _, _, _, _, _, _, _, _, _, _, _, _] rfl (by kernel_rfl) ?_)
  go_wp2_with fail
  refine Ord.nx_ord (Ord.ord_pure (.int .u64 (G : Int)) rfl (by kernel_rfl) (by rfl) (fun w' => by first | (go_simp; done) | (go_simp; exact hwG)) ?_)
  simp only [Act.put, List.setIfInBounds_toArray]
  refine Ord.ord_pure (.int .u64 (G : Int)) rfl (by kernel_rfl) (by rfl) (fun w' => by first | (go_simp; done) | (go_simp; exact hwG)) ?_
  simp only [Act.put]
  refine Ord.ord_all [_, _] rfl (by kernel_rfl) ?_
  go_wp2_with fail
  refine HLY.out.mono ?_
  rintro e w1 ⟨F1, pm1, hf1, h1⟩
  have hf1' : Frm B w F a pm (n + 2) dev F1 pm1 w1 := hf1.of_below (below_drewN (Below.refl _ _) 1)
  have hfw := hf1'.wal HG.out.1 HG.out.2
  have hb1 : Blk w1 g 91 (walCells a dev N m).toArray := Blk.mods HW.out hf1'.mods HG.out.2 HG.out.1
  rcases h1 with ⟨rfl, hd1, hon1⟩ | ⟨rfl, hfu1, hoff1, hds1⟩
  · have HD := Lib.hid (⟨hd1, hon1⟩ : _ ∧ _)
    have s1 := hb1.set_ 3 (.int .u64 (G : Int))
    have s2 := s1.set_ 4 (.int .u64 (G : Int))
    have s3 := s2.set_ 5 (.int .i64 2)
    have s4 := s3.set_ 6 (.int .u64 1)
    have HS4 := Lib.hid s4
    have HFW := Lib.hid ((((hfw.cell 3 (.int .u64 (G : Int))).cell 4 (.int .u64 (G : Int))).cell 5 (.int .i64 2)).cell 6 (.int .u64 1))
    have f3 := hb1.frozen 3
    have f4 := hb1.frozen 4
    have f5 := hb1.frozen 5
    have f6 := hb1.frozen 6
    have k3 : w1.cell? ⟨g, 3, none⟩ = some (.int .u64 (m.gen : Int)) := by rw [hb1.cell]; rfl
    have k4 : w1.cell? ⟨g, 4, none⟩ = some (.int .u64 (m.ep : Int)) := by rw [hb1.cell]; rfl
    have k5 : w1.cell? ⟨g, 5, none⟩ = some (.int .i64 (m.next : Int)) := by rw [hb1.cell]; rfl
    have k6 : w1.cell? ⟨g, 6, none⟩ = some (.int .u64 (m.num : Int)) := by rw [hb1.cell]; rfl
    clear hf1 hf1' hfw hb1 hd1 hon1 s1 s2 s3 s4 c0 c1 c3 HLY
    go_wp2_with fail
    refine Ord.nx_end ?_
    go_wp2_with fail
    go_ret
    refine ⟨F1, pm1, HFW.out, .inl ⟨rfl, ?_, HD.out.2, ?_⟩⟩
    · rw [HGE.out]
      exact HD.out.1
    · show Blk _ _ _ _
      have e4 : (walCells a dev N ⟨m.gen + 1, m.gen + 1, 2, 1⟩).toArray = ((((walCells a dev N m).toArray.setIfInBounds 3 (.int .u64 (G : Int))).setIfInBounds 4 (.int .u64 (G : Int))).setIfInBounds 5 (.int .i64 2)).setIfInBounds 6 (.int .u64 1) := by
        rw [HGE.out]
        simp [walCells]
      rw [e4]
      exact HS4.out
  · have HD := Lib.hid (⟨hfu1, hoff1, hds1⟩ : _ ∧ _ ∧ _)
    have HFW := Lib.hid hfw
    have HB1 := Lib.hid hb1
    clear hf1 hf1' hfw hb1 hfu1 hoff1 hds1 c0 c1 c3 HLY
    go_wp2_with fail
    refine Ord.nx_end ?_
    go_wp2_with fail
    go_ret
    refine ⟨F1, pm1, HFW.out, .inr ⟨rfl, HD.out.1, HD.out.2.1, ?_, HB1.out⟩⟩
    rw [HGE.out]
    exact HD.out.2.2
end Go.Proofs.YtlnfeehokpkgiaaDoor.Wal
