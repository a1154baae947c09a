/- Layer 15 (coldvol): what a call on a plant's tape leaves; Flush. -/
import Derived.Test.YtloffgoenaomkaaDoorCol4
namespace Go.Proofs.YtloffgoenaomkaaDoor.Col
open Go Go.RowKit Mem Pl Disk Crc _root_.Go.Proofs.YtloffgoenaomkaaDoor.Frame Hash
/-- The other tapes are as they were. -/
def Others (dev : Nat) (pm pm' : PM) : Prop := ∀ (j N : Nat) (H ws : List (List UInt8)), j ≠ dev → TapeP pm j N H ws → TapeP pm' j N H ws
theorem Others.refl (dev : Nat) (pm : PM) : Others dev pm pm := fun _ _ _ _ _ h => h
theorem Others.trans {dev : Nat} {p q r : PM} (h : Others dev p q) (k : Others dev q r) : Others dev p r := fun j N H ws hj hd => k j N H ws hj (h j N H ws hj hd)
theorem grow_new {w w' : World} {F : Nat → Prop} : ∀ g, Grow F w w' g → F g ∨ w.heap.size ≤ g := fun g hg => by
  rcases hg with hg | hg
  · exact .inl hg
  · exact .inr hg.1
theorem st_more {B : Nat} {w : World} {G : Nat → Prop} {c m k : Nat} {q : PM} (hq : St B w G c q m) (h : m ≤ k) : St B w G c q k := ⟨hq.at_, hq.ok, hq.lt, Nat.le_trans hq.steps h, Nat.le_trans hq.waits h⟩
/-- The frame of a call on a plant. -/
structure Frm (B : Nat) (w : World) (F : Nat → Prop) (a : Nat) (pm : PM) (n dev : Nat) (F' : Nat → Prop) (pm' : PM) (w' : World) : Prop where
  grow : ∀ g, F' g → F g ∨ w.heap.size ≤ g
  mods : Mods w.heap.size F w w'
  st : St B w' F' a pm' n
  els : Others dev pm pm'
  fuse : pm.fuse = none → pm'.fuse = none
section
variable {B : Nat} {w w1 w' : World} {F F1 F' : Nat → Prop} {a n n1 n' v dev N : Nat} {pm pm1 pm' : PM} {H ws H' ws' : List (List UInt8)}
theorem Frm.of_below (h : Frm B w1 F a pm n dev F' pm' w') (hb : Below w.heap.size w w1) : Frm B w F a pm n dev F' pm' w' :=
  ⟨fun g hg => (h.grow g hg).imp id fun h => Nat.le_trans hb.size h, (Mods.of_below hb).trans (h.mods.mono hb.size fun _ _ h => h), h.st, h.els, h.fuse⟩
theorem Frm.trans (h : Frm B w F a pm n1 dev F1 pm1 w1) (k : Frm B w1 F1 a pm1 n dev F' pm' w') : Frm B w F a pm n dev F' pm' w' :=
  ⟨fun g hg => (k.grow g hg).elim (h.grow g) fun h1 => .inr (Nat.le_trans h.mods.size h1), h.mods.trans (k.mods.mono h.mods.size fun g hlt hg => (h.grow g hg).resolve_right (by omega)), k.st, h.els.trans k.els, fun e => k.fuse (h.fuse e)⟩
theorem Frm.more (h : Frm B w F a pm n dev F' pm' w') (hn : n ≤ n') : Frm B w F a pm n' dev F' pm' w' := ⟨h.grow, h.mods, st_more h.st hn, h.els, h.fuse⟩
theorem Frm.below (h : Frm B w F a pm n dev F' pm' w1) (hb : Below w1.heap.size w1 w') : Frm B w F a pm n dev F' pm' w' :=
  ⟨h.grow, h.mods.then_below hb h.mods.size, h.st.below hb, h.els, h.fuse⟩
theorem Frm.refl (h : St B w F a pm n) : Frm B w F a pm n dev F pm w := ⟨fun _ hg => .inl hg, Mods.refl _ _ _, h, Others.refl _ _, fun e => e⟩
/-- A volume behind a call. -/
theorem VS.next {j : Nat} (h : VS B w F a pm n v dev N H ws) (hf : Frm B w F a pm n' j F' pm' w') (ht : TapeP pm' dev N H' ws') (hon : pm'.off = false) : VS B w' F' a pm' n' v dev N H' ws' :=
  ⟨hf.st, ht, h.vol.mods hf.mods h.vol.lt h.nf, fun hg => (hf.grow v hg).elim h.nf (Nat.not_le.2 h.vol.lt), hon, h.tab.below ((hf.mods.mono h.bs fun _ _ h => h).below fun k hk hg => by have := (h.st.lt k hg).1; omega) h.gB, h.gB, Nat.le_trans h.bs hf.mods.size⟩
/-- A volume beside a call on another tape of its plant. -/
theorem VS.other {j : Nat} (h : VS B w F a pm n v dev N H ws) (hj : dev ≠ j) (hf : Frm B w F a pm n' j F' pm' w') (hon : pm'.off = false) : VS B w' F' a pm' n' v dev N H ws := h.next hf (hf.els dev N H ws hj h.tp) hon
/-- An append of a block. -/
theorem St.appended (hst : St B w F a pm n) (ht : TapeP pm dev N H ws) (hB : B ≤ w.heap.size) (hn : n ≤ 1000000000) (hon : pm.off = false) (hr : H.length + ws.length < N) (A : Option Addr) (cap : Nat) (b : List UInt8) (hb : BAt w A b) (hl : b.length = 64) :
    Calls Tryd.prog 28 #[.pointer (some ⟨a, 0, none⟩), .int .i64 (dev : Int), .slice A 64 cap] w fun e w' => ∃ F' pm', Frm B w F a pm (n + 1) dev F' pm' w' ∧
      ((e = .returned (.tuple #[.int .i64 ((H.length + ws.length : Nat) : Int), .int .i64 0]) ∧ TapeP pm' dev N H (ws ++ [b]) ∧ pm'.off = false) ∨ (e = .returned (.tuple #[.int .i64 0, .int .i64 2]) ∧ TapeP pm' dev N H ws ∧ pm.fuse ≠ none ∧ pm'.off = true)) := by
  refine (hst.append hB hn (dev : Int) A 64 cap b hb hl).mono ?_
  rintro e w' ⟨he, hs, hm⟩
  rcases ht.append_cases hon hr hl with ⟨h1, h2⟩ | ⟨h1, h2⟩
  · rw [h2] at he hs
    exact ⟨_, _, ⟨grow_new, hm, hs, fun j N2 H2 ws2 hj hd => hd.appendedElse (fun e => hj e.symm) rfl rfl, fun e => by show pred pm.fuse = none; rw [e]; rfl⟩, .inl ⟨he, ht.appended rfl rfl, hon⟩⟩
  · rw [h2] at he hs
    exact ⟨_, _, ⟨grow_new, hm, hs, fun j N2 H2 ws2 hj hd => hd.same rfl rfl, fun _ => rfl⟩, .inr ⟨he, ht.same rfl rfl, by rw [h1]; simp, rfl⟩⟩
theorem St.flushed (hst : St B w F a pm n) (ht : TapeP pm dev N H ws) (hB : B ≤ w.heap.size) (hn : n ≤ 1000000000) (hon : pm.off = false) :
    Calls Tryd.prog 29 #[.pointer (some ⟨a, 0, none⟩), .int .i64 (dev : Int)] w fun e w' => ∃ F' pm', Frm B w F a pm (n + 1) dev F' pm' w' ∧
      ((e = .returned (.int .i64 0) ∧ TapeP pm' dev N (H ++ ws) [] ∧ pm'.off = false) ∨ (e = .returned (.int .i64 2) ∧ TapeP pm' dev N H ws ∧ pm.fuse ≠ none ∧ pm'.off = true)) := by
  refine (hst.flush hB hn (dev : Int)).mono ?_
  rintro e w' ⟨he, hs, hm⟩
  rcases ht.flush_cases hon with ⟨h1, h2, h3, h4, h5⟩ | ⟨h1, h2⟩
  · rw [h2] at he
    exact ⟨_, _, ⟨grow_new, hm, hs, fun j N2 H2 ws2 hj hd => by
      have e : pm.flush dev = ({ pm with fuse := pred pm.fuse, steps := pm.steps + 1, devs := (pm.waits.filter fun x => x.dev == dev).foldl Pl.settle pm.devs, waits := pm.waits.filter fun x => !(x.dev == dev) }, 0) := by
        unfold PM.flush
        rw [if_neg (by rw [hon]; simp), ht.num, step_on h1]
        rfl
      rw [e]
      exact hd.flushedElse (fun e => hj e.symm) rfl rfl, fun e => by rw [h5, e]; rfl⟩, .inl ⟨he, h3, h4⟩⟩
  · rw [h2] at he hs
    exact ⟨_, _, ⟨grow_new, hm, hs, fun j N2 H2 ws2 hj hd => hd.same rfl rfl, fun _ => rfl⟩, .inr ⟨he, ht.same rfl rfl, by rw [h1]; simp, rfl⟩⟩
end
/-- What 'Flush' leaves. -/
def FlushP (B : Nat) (w : World) (F : Nat → Prop) (a : Nat) (pm : PM) (n v dev N : Nat) (H ws : List (List UInt8)) (e : Ending) (w' : World) : Prop :=
  ∃ (F' : Nat → Prop) (pm' : PM), Frm B w F a pm (n + 1) dev F' pm' w' ∧
    ((e = .returned (.int .i64 0) ∧ VS B w' F' a pm' (n + 1) v dev N (H ++ ws) []) ∨ (e = .returned (.int .i64 2) ∧ TapeP pm' dev N H ws ∧ pm.fuse ≠ none ∧ pm'.off = true))
set_option maxHeartbeats 4000000 in
theorem vflush_any {B : Nat} {w : World} {F : Nat → Prop} {a : Nat} {pm : PM} {n v dev N : Nat} {H ws : List (List UInt8)} (h : VS B w F a pm n v dev N H ws) (hn : n ≤ 1000000000) :
    Calls Tryd.prog 20 #[.pointer (some ⟨v, 0, none⟩)] w (FlushP B w F a pm n v dev N H ws) := by
  have HV := Lib.hid h
  have hv0 := h.vol.cell 0
  have hv1 := h.vol.cell 1
  simp at hv0 hv1
  have hbd : Below w.heap.size w w.drew := below_drewN (Below.refl _ _) 1
  have HD := Lib.hid hbd
  have HF := Lib.hid (St.flushed (h.below hbd).st h.tp (Nat.le_trans h.bs hbd.size) hn h.on)
  clear h hbd
  go_enter Tryd.func20, Tryd.ntmps20
  go_wp2_with fail
  refine Ord.region_ord [] [0, 1, 2, 3, 4, 5, 6, 7, 8, 9, 10, 11] (by kernel_rfl) (by kernel_rfl) (by kernel_rfl) (by kernel_rfl) (Ord.ord_all [_, _, _, _, _, _, _, _, _, _, _, _] rfl (by kernel_rfl) ?_)
  go_wp2_with fail
  refine HF.out.mono ?_
  rintro e w' ⟨F', pm', hf, hr⟩
  have HF2 := Lib.hid (hf.of_below HD.out)
  have HR := Lib.hid hr
  clear hf HF
  rcases hr with ⟨rfl, ht, hon⟩ | ⟨rfl, ht, hfz, hoff⟩
  · have HX := Lib.hid (HV.out.next HF2.out ht hon)
    clear ht hon HR
    go_wp2_with fail
    refine Ord.nx_end ?_
    go_wp2_with fail
    go_ret
    exact ⟨F', pm', HF2.out, .inl ⟨rfl, HX.out⟩⟩
  · have HX := Lib.hid (⟨ht, hfz, hoff⟩ : _ ∧ _ ∧ _)
    clear ht hfz hoff HR
    go_wp2_with fail
    refine Ord.nx_end ?_
    go_wp2_with fail
    go_ret
    exact ⟨F', pm', HF2.out, .inr ⟨rfl, HX.out⟩⟩
end Go.Proofs.YtloffgoenaomkaaDoor.Col
