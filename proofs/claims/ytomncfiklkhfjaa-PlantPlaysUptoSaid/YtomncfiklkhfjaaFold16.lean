/- The reference's step, Fuse, On, Tick. -/
import Derived.Test.YtomncfiklkhfjaaFold14
import Derived.RegionTactic
import Derived.StillTailTactics
namespace Go.Proofs.Ytomncfiklkhfjaa.Ref
open Go Go.RowKit Mem Pl
variable {S : Nat → Prop}
/-- What a call leaves. -/
def RGone (S : Nat → Prop) (F : Nat → Prop) (w : World) (r : Nat) (q : PM) (w' : World) : Prop := RefAt S w' (Grow F w w') r q ∧ RMods F w w'
section
variable {w w' : World} {F : Nat → Prop} {r : Nat} {p q : PM} {left left' : Int} {D T V W : Value}
/-- Only the plant's own block turned. -/
theorem only_ty (hb : Blk w r 78 (rfCells D T V W left p).toArray) (hk : ∀ k, k ≠ r → w'.heap[k]? = w.heap[k]?) {t : TypeId} (ht : t ≠ 78) : ∀ (g : Nat) (cs : Array Value), w.heap[g]? = some (Obj.cells cs t (0, 0)) → w'.heap[g]? = some (Obj.cells cs t (0, 0)) := fun g cs hh =>
  (hk g (Blk.ne_ (w := w) (g := g) (t := t) (cs := cs) hh hb ht)).trans hh
theorem RefB.turn (h : RefB S w F r p left D T V W) (hq : q.disks = p.disks ∧ q.tapes = p.tapes ∧ q.devs = p.devs ∧ q.waits = p.waits) (hl : ∀ n : Nat, q.fuse = some n → left' = (n : Int)) (hr : -9223372036854775808 ≤ left' ∧ left' < 9223372036854775808)
    (hb : Blk w' r 78 (rfCells D T V W left' q).toArray) (hk : ∀ k, k ≠ r → w'.heap[k]? = w.heap[k]?) (hs : w.heap.size ≤ w'.heap.size) : RefB S w' F r q left' D T V W := by
  obtain ⟨q1, q2, q3, q4⟩ := hq
  have hne := fun (t : TypeId) (ht : t ≠ 78) => only_ty h.blk hk ht
  refine ⟨hb, h.own, hl, hr, ?_, ?_, ?_, ?_⟩
  · rw [q1]; exact h.disks.heap (hne _ (by decide))
  · rw [q2]; exact h.tapes.heap (hne _ (by decide))
  · rw [q3]; exact h.has.heap (hne _ (by decide)) (hne _ (by decide)) ⟨hne _ (by decide), hne _ (by decide)⟩ hs
  · rw [q4]; exact h.waits.heap (hne _ (by decide)) ⟨hne _ (by decide), hne _ (by decide)⟩
theorem RefB.turnG (h : RefB S w F r p left D T V W) (hq : q.disks = p.disks ∧ q.tapes = p.tapes ∧ q.devs = p.devs ∧ q.waits = p.waits) (hl : ∀ n : Nat, q.fuse = some n → left' = (n : Int)) (hr : -9223372036854775808 ≤ left' ∧ left' < 9223372036854775808)
    (hb : Blk w' r 78 (rfCells D T V W left' q).toArray) (hk : ∀ k, k ≠ r → w'.heap[k]? = w.heap[k]?) (hm : Mods w.heap.size (· = r) w w') : RefB S w' (Grow F w w') r q left' D T V W ∧ RMods F w w' := by
  have h1 := h.turn hq hl hr hb hk hm.size
  refine ⟨⟨h1.blk, .inl h1.own, h1.hleft, h1.lrange, h1.disks, h1.tapes, h1.has.mono fun g _ hg => .inl hg, h1.waits.mono fun g _ hg => .inl hg⟩, hm.mono (Nat.le_refl _) fun g _ hg => ?_, ⟨only_ty h.blk hk (by decide), only_ty h.blk hk (by decide)⟩⟩
  show F g
  have hg' : g = r := hg
  rw [hg']
  exact h.own
theorem RefB.same (h : RefB S w F r p left D T V W) : RGone S F w r p w := ⟨⟨left, D, T, V, W, h.blk, .inl h.own, h.hleft, h.lrange, h.disks, h.tapes, h.has.mono fun g _ hg => .inl hg, h.waits.mono fun g _ hg => .inl hg⟩, Mods.refl _ _ _, ⟨fun _ _ hh => hh, fun _ _ hh => hh⟩⟩
theorem on_any (h : RefB S w F r p left D T V W) : Calls Try.prog 81 #[.pointer (some ⟨r, 0, none⟩)] w fun e w' => e = .returned (.bool (!p.off)) ∧ w = w' := by
  have h4 := h.c4
  clear h
  go_enter Try.func81, Try.ntmps81
  go_wp2
  go_ret
  exact ⟨rfl, rfl⟩
set_option maxHeartbeats 2000000 in
/-- A step; false: the power goes off at it. -/
theorem step_any (h : RefB S w F r p left D T V W) (hs : p.steps < 4611686018427387904) :
    Calls Try.prog 76 #[.pointer (some ⟨r, 0, none⟩)] w fun e w' => e = .returned (.bool p.step.2) ∧ (∃ left', RefB S w' (Grow F w w') r p.step.1 left' D T V W) ∧ RMods F w w' ∧ (∀ k, k ≠ r → w'.heap[k]? = w.heap[k]?) ∧ w'.heap.size = w.heap.size := by
  have h5 := h.c5
  have h6 := h.c6
  have h7 := h.c7
  have hz3 := h.fz 3
  have hz4 := h.fz 4
  have hz5 := h.fz 5
  have hz6 := h.fz 6
  have hz7 := h.fz 7
  have hc3 := h.c4
  have HL := Lib.hid h.hleft
  have hlr := h.lrange
  have H := Lib.hid h
  clear h
  have hp7 : p.steps + 1 < 9223372036854775808 := by omega
  cases hfu : p.fuse with
  | none =>
    rw [hfu] at h5
    have hst : p.step = ({ p with steps := p.steps + 1 }, true) := by unfold PM.step; rw [hfu]
    go_enter Try.func76, Try.ntmps76
    go_wp2
    go_ret
    rw [hst]
    have hb := (H.out.blk.set_ 7 (.int .i64 ((p.steps : Int) + 1)))
    obtain ⟨k1, k2⟩ := H.out.turnG (q := { p with steps := p.steps + 1 }) (left' := left) ⟨rfl, rfl, rfl, rfl⟩ (fun n hn => by rw [hfu] at hn; cases hn) hlr (w' := w.setCell ⟨r, 7, none⟩ (.int .i64 ((p.steps : Int) + 1))) (by simpa [rfCells] using hb) (fun k hk => heap_set_ne _ _ _ _ _ hk) (mods_set _ _ _ _ _ (Mods.refl _ _ _))
    exact ⟨rfl, ⟨left, k1⟩, k2, fun k hk => heap_set_ne _ _ _ _ _ hk, by simp⟩
  | some n =>
    have hln := HL.out n hfu
    rw [hfu] at h5
    rw [hln] at h6
    by_cases hn : n = 0
    · subst hn
      have hst : p.step = ({ p with off := true, fuse := none }, false) := by unfold PM.step; rw [hfu]
      go_enter Try.func76, Try.ntmps76
      go_wp2
      go_ret
      rw [hst]
      have hb := ((H.out.blk.set_ 4 (.bool true)).set_ 5 (.bool false))
      obtain ⟨k1, k2⟩ := H.out.turnG (q := { p with off := true, fuse := none }) (left' := left) ⟨rfl, rfl, rfl, rfl⟩ (fun n hn => by cases hn) hlr (w' := (w.setCell ⟨r, 4, none⟩ (.bool true)).setCell ⟨r, 5, none⟩ (.bool false)) (by simpa [rfCells] using hb) (fun k hk => (heap_set_ne _ _ _ _ _ hk).trans (heap_set_ne _ _ _ _ _ hk)) (mods_set _ _ _ _ _ (mods_set _ _ _ _ _ (Mods.refl _ _ _)))
      exact ⟨rfl, ⟨left, k1⟩, k2, fun k hk => (heap_set_ne _ _ _ _ _ hk).trans (heap_set_ne _ _ _ _ _ hk), by simp⟩
    · have hst : p.step = ({ p with fuse := some (n - 1), steps := p.steps + 1 }, true) := by
        obtain ⟨m, rfl⟩ : ∃ m, n = m + 1 := ⟨n - 1, by omega⟩
        unfold PM.step
        rw [hfu]
        rfl
      have HST := Lib.hid hst
      have hn0 : (0 : Int) < (n : Int) := by omega
      have hn1 : ((n : Int) == 0) = false := by simpa using hn
      have en : Hid ((n : Int) - 1 = ((n - 1 : Nat) : Int)) := Lib.hid (by omega)
      have hf' : (n : Int) ≤ 9223372036854775807 := by omega
      have HFU := Lib.hid hfu
      clear hst hfu hn hs hln hlr
      go_enter Try.func76, Try.ntmps76
      go_wp2
      go_ret
      rw [HST.out, en.out]
      have hb := ((H.out.blk.set_ 6 (.int .i64 ((n - 1 : Nat) : Int))).set_ 7 (.int .i64 ((p.steps : Int) + 1)))
      obtain ⟨k1, k2⟩ := H.out.turnG (q := { p with fuse := some (n - 1), steps := p.steps + 1 }) (left' := ((n - 1 : Nat) : Int)) ⟨rfl, rfl, rfl, rfl⟩ (fun m hm => by injection hm with hm; rw [hm]) (by omega) (w' := (w.setCell ⟨r, 6, none⟩ (.int .i64 ((n - 1 : Nat) : Int))).setCell ⟨r, 7, none⟩ (.int .i64 ((p.steps : Int) + 1))) (by simpa [rfCells, HFU.out] using hb) (fun k hk => (heap_set_ne _ _ _ _ _ hk).trans (heap_set_ne _ _ _ _ _ hk)) (mods_set _ _ _ _ _ (mods_set _ _ _ _ _ (Mods.refl _ _ _)))
      exact ⟨rfl, ⟨_, k1⟩, k2, fun k hk => (heap_set_ne _ _ _ _ _ hk).trans (heap_set_ne _ _ _ _ _ hk), by simp⟩
set_option maxHeartbeats 2000000 in
theorem fuse_any (h : RefB S w F r p left D T V W) (n : Int) (hn : -9223372036854775808 ≤ n ∧ n < 9223372036854775808) : Calls Try.prog 47 #[.pointer (some ⟨r, 0, none⟩), .int .i64 n] w fun e w' => e = .returned (.tuple #[]) ∧ RGone S F w r (p.setFuse n) w' := by
  have h4 := h.c4
  have z5 := h.fz 5
  have z6 := h.fz 6
  have h5 := h.c5
  have h6 := h.c6
  have HB := Lib.hid h
  clear h
  cases hoff : p.off with
  | true =>
    have e : p.setFuse n = p := by unfold PM.setFuse; rw [hoff]; rfl
    rw [e]
    rw [hoff] at h4
    clear hoff e
    go_enter Try.func47, Try.ntmps47
    go_wp2
    refine bodyPost_ret (results_none rfl _ _ _) rfl ?_
    exact ⟨rfl, HB.out.same⟩
  | false =>
    have HE : Hid (p.setFuse n = { p with fuse := if n < 0 then none else some n.toNat }) := Lib.hid (by unfold PM.setFuse; rw [hoff]; rfl)
    rw [hoff] at h4
    clear hoff
    have HD : Hid ((if n < 0 then none else some n.toNat : Option Nat).isSome = decide (0 ≤ n)) := Lib.hid (by
      by_cases h0 : n < 0
      · rw [if_pos h0]; simp; omega
      · rw [if_neg h0]; simp; omega)
    go_enter Try.func47, Try.ntmps47
    go_wp2
    go_end0
    rw [HE.out]
    have hb := ((HB.out.blk.set_ 5 (.bool (decide (0 ≤ n)))).set_ 6 (.int .i64 n))
    obtain ⟨k1, k2⟩ := HB.out.turnG (q := { p with fuse := if n < 0 then none else some n.toNat }) (left' := n) ⟨rfl, rfl, rfl, rfl⟩ (fun m hm => by
      simp only at hm
      split at hm
      · cases hm
      · injection hm with hm
        omega) hn (w' := (w.setCell ⟨r, 5, none⟩ (.bool (decide (0 ≤ n)))).setCell ⟨r, 6, none⟩ (.int .i64 n)) (by simpa [rfCells, HD.out] using hb) (fun k hk => (heap_set_ne _ _ _ _ _ hk).trans (heap_set_ne _ _ _ _ _ hk)) (mods_set _ _ _ _ _ (mods_set _ _ _ _ _ (Mods.refl _ _ _)))
    exact ⟨rfl, ⟨_, _, _, _, _, k1⟩, k2⟩
set_option maxRecDepth 20000 in
set_option maxHeartbeats 2000000 in
theorem tick_any (h : RefB S w F r p left D T V W) (hok : p.Ok) (n : Int) (hn : n ≤ 9223372036854775807) : Calls Try.prog 52 #[.pointer (some ⟨r, 0, none⟩), .int .i64 n] w fun e w' => e = .returned (.tuple #[]) ∧ RGone S F w r (p.tick n) w' := by
  have h8 := h.c8
  have z8 := h.fz 8
  have HB := Lib.hid h
  have hnow := hok.now
  clear h
  by_cases h0 : 0 < n
  · have HE : Hid (p.tick n = { p with now := p.now + min n.toNat (1099511627776 - p.now) }) := Lib.hid (by unfold PM.tick; rw [if_pos h0])
    have hfin : ∀ (x : Int), x = ((p.now + min n.toNat (1099511627776 - p.now) : Nat) : Int) → RGone S F w r (p.tick n) (w.setCell ⟨r, 8, none⟩ (.int .i64 x)).drew := fun x hx => by
      subst hx
      rw [HE.out]
      have hb := HB.out.blk.set_ 8 (.int .i64 ((p.now + min n.toNat (1099511627776 - p.now) : Nat) : Int))
      obtain ⟨k1, k2⟩ := HB.out.turnG (q := { p with now := p.now + min n.toNat (1099511627776 - p.now) }) (left' := left) ⟨rfl, rfl, rfl, rfl⟩ HB.out.hleft HB.out.lrange (w' := w.setCell ⟨r, 8, none⟩ (.int .i64 ((p.now + min n.toNat (1099511627776 - p.now) : Nat) : Int))) (by simpa [rfCells] using hb) (fun k hk => heap_set_ne _ _ _ _ _ hk) (mods_set _ _ _ _ _ (Mods.refl _ _ _))
      exact ⟨RefAt.below ⟨_, _, _, _, _, k1⟩ (below_drewN (Below.refl _ _) 1), k2.mods.drew, ⟨k2.bytes.b, k2.bytes.i⟩⟩
    have HFIN := Lib.hid hfin
    clear hfin
    have hw1 : IntKind.i64.wrap (1099511627776 - (p.now : Int)) = 1099511627776 - (p.now : Int) := IntWalk.i64_in _ (by omega)
    by_cases hm : 1099511627776 - (p.now : Int) < n
    · have hw2 : IntKind.i64.wrap ((p.now : Int) + (1099511627776 - (p.now : Int))) = (p.now : Int) + (1099511627776 - (p.now : Int)) := IntWalk.i64_in _ (by omega)
      go_enter Try.func52, Try.ntmps52
      go_wp2
      go_still_tail 13, (by kernel_rfl)
      change wpList _ _ _ _ _ w.drew
      go_wp2
      go_end0
      exact ⟨rfl, HFIN.out _ (by omega)⟩
    · have hm' : n ≤ 1099511627776 - (p.now : Int) := by omega
      have hm2 : ¬ 1099511627776 - (p.now : Int) < n := hm
      have hw2 : IntKind.i64.wrap ((p.now : Int) + n) = (p.now : Int) + n := IntWalk.i64_in _ (by omega)
      clear hm
      go_enter Try.func52, Try.ntmps52
      go_wp2
      go_still_tail 13, (by kernel_rfl)
      change wpList _ _ _ _ _ w.drew
      go_wp2
      go_end0
      exact ⟨rfl, HFIN.out _ (by omega)⟩
  · have e : p.tick n = p := by unfold PM.tick; rw [if_neg h0]
    rw [e]
    clear e
    go_enter Try.func52, Try.ntmps52
    go_wp2
    go_end0
    exact ⟨rfl, HB.out.same⟩
end
end Go.Proofs.Ytomncfiklkhfjaa.Ref
/- What a write does to the reference's memory; 'most' on a plant. -/
namespace Go.Proofs.Ytomncfiklkhfjaa.Ref
open Go Go.RowKit Mem Pl
variable {S : Nat → Prop}
section
variable {w w' w5 : World} {F F' : Nat → Prop} {r : Nat} {p q : PM} {left left' : Int} {D T V W W5 : Value} {row : Option Nat} {ws : List Wr} {x : Wr} {v : Value}
theorem SecOk.of_own (hS : ∀ g, S g) {base : Nat} {A : Option Addr} {c : Nat} {b : List UInt8} (h : Own w base 5 A 64 c b) : SecOk S w b (.slice A 64 c) := by
  have hl := h.len
  obtain ⟨_, h2⟩ := h
  rcases h2 with ⟨_, h0⟩ | ⟨g', cap', cur, hv, hg, hh, hn, hcap, hsz, htake⟩
  · cases h0
  · injection hv with e1 e2 e3
    subst e1 e3
    exact ⟨g', c, cur, rfl, hh, by simpa using htake, hl, hS _⟩
theorem RWaitsAt.push {rows : List (List Value)} (hlen : rows.length = ws.length) (h3 : ∀ (i : Nat) x, ws[i]? = some x → ∃ v, rows[i]? = some [natV x.dev, natV x.place, v] ∧ SecOk S w x.b v) (hs : SecOk S w x.b v) (hk : BytesKept w w')
    (hV : Vec w' F' 112 3 V (ws.length + 1) (rows.flatten ++ [natV x.dev, natV x.place, v])) : RWaitsAt S w' F' V (ws ++ [x]) := by
  refine ⟨rows ++ [[natV x.dev, natV x.place, v]], by simpa using hV, by simp [hlen], fun i y hy => ?_⟩
  rcases Nat.lt_or_ge i ws.length with h | h
  · rw [List.getElem?_append_left h] at hy
    obtain ⟨u, h4, h5⟩ := h3 i y hy
    exact ⟨u, by rw [List.getElem?_append_left (by omega)]; exact h4, h5.keep hk⟩
  · have hi : i = ws.length := by
      have := (List.getElem?_eq_some_iff.1 hy).1
      simp at this
      omega
    subst hi
    simp at hy
    subst hy
    exact ⟨v, by rw [List.getElem?_append_right (by omega), hlen]; simp, hs.keep hk⟩
/-- The row of what waits is another. -/
theorem RefB.putW (h : RefB S w F r p left D T V W) (hg : w.grownBy w5 row) (hr : row = none ∨ ∃ g cs, row = some g ∧ F g ∧ w.heap[g]? = some (Obj.cells cs 112 (0, 0))) {ws' : List Wr} (hW : RWaitsAt S w5 (Grow F w w5) W5 ws') :
    RefB S (w5.setCell ⟨r, 3, none⟩ W5) (Grow F w (w5.setCell ⟨r, 3, none⟩ W5)) r { p with waits := ws' } left D T V W5 ∧ RMods F w (w5.setCell ⟨r, 3, none⟩ W5) := by
  have hr' : row = none ∨ ∃ g cs, row = some g ∧ w.heap[g]? = some (Obj.cells cs 112 (0, 0)) := hr.imp id fun ⟨g, cs, x, _, y⟩ => ⟨g, cs, x, y⟩
  have hk5 := fun (t : TypeId) (ht : t ≠ 112) => keep_ty hg hr' ht
  have hblk5 : Blk w5 r 78 (rfCells D T V W left p).toArray := hk5 _ (by decide) r _ h.blk
  have hk6 := fun (t : TypeId) (ht : t ≠ 78) => only_ty (w' := w5.setCell ⟨r, 3, none⟩ W5) hblk5 (fun k hk => heap_set_ne _ _ _ _ _ hk) ht
  have hsz6 : (w5.setCell ⟨r, 3, none⟩ W5).heap.size = w5.heap.size := by simp
  have hF6 : ∀ g, Grow F w w5 g → Grow F w (w5.setCell ⟨r, 3, none⟩ W5) g := fun g hg => hg.imp id fun h => ⟨h.1, by rw [hsz6]; exact h.2⟩
  refine ⟨⟨?_, .inl h.own, h.hleft, h.lrange, ?_, ?_, ?_, ?_⟩, ?_, BytesKept.of fun t ht g cs hh => hk6 t (by rcases ht with rfl | rfl <;> decide) g cs (hk5 t (by rcases ht with rfl | rfl <;> decide) g cs hh)⟩
  · have hb := hblk5.set_ 3 W5
    simpa [rfCells] using hb
  · exact (h.disks.heap (hk5 _ (by decide))).heap (hk6 _ (by decide))
  · exact (h.tapes.heap (hk5 _ (by decide))).heap (hk6 _ (by decide))
  · exact ((h.has.heap (hk5 _ (by decide)) (hk5 _ (by decide)) ⟨hk5 _ (by decide), hk5 _ (by decide)⟩ hg.size).heap (hk6 _ (by decide)) (hk6 _ (by decide)) ⟨hk6 _ (by decide), hk6 _ (by decide)⟩ (by rw [hsz6]; exact Nat.le_refl _)).mono fun g _ hg => .inl hg
  · exact (hW.heap (hk6 _ (by decide)) ⟨hk6 _ (by decide), hk6 _ (by decide)⟩).mono fun g _ hg => hF6 g hg
  · refine (((Mods.refl w.heap.size F w).grown hg (Nat.le_refl _) fun g hgr => ?_)).setCell (.inl h.own) W5
    rcases hr with h1 | ⟨g', cs', h1, h2, _⟩
    · rw [h1] at hgr; cases hgr
    · rw [h1] at hgr
      injection hgr with hgr
      subst hgr
      exact .inl h2
theorem RMods.trans {w1 : World} (h : RMods F w w1) (k : RMods (Grow F w w1) w1 w') : RMods F w w' :=
  ⟨h.mods.trans ((k.mods.mono h.mods.size fun g hg hf => by
    rcases hf with hf | hf
    · exact hf
    · omega)), h.bytes.trans k.bytes⟩
theorem grow_grow {w1 : World} (h1 : w.heap.size ≤ w1.heap.size) (h2 : w1.heap.size ≤ w'.heap.size) : ∀ g, Grow (Grow F w w1) w1 w' g → Grow F w w' g := fun g hg => by
  rcases hg with (hg | hg) | hg
  · exact .inl hg
  · exact .inr ⟨hg.1, by omega⟩
  · exact .inr ⟨by omega, hg.2⟩
theorem RGone.trans {w1 : World} (h : RMods F w w1) (k : RGone S (Grow F w w1) w1 r q w') : RGone S F w r q w' :=
  ⟨k.1.mono fun g _ hg => grow_grow h.mods.size k.2.mods.size g hg, h.trans k.2⟩
theorem natV_int (l : List Nat) : l.map natV = (l.map Int.ofNat).map intV := by
  rw [List.map_map]
  rfl
theorem most_ref (h : RefB S w F r p left D T V W) (hok : p.Ok) {j : Nat} {d : Dev} (hd : p.devs[j]? = some d) :
    Calls Try.prog 65 #[.pointer (some ⟨r, 0, none⟩), .int .i64 (j : Int)] w fun e w' => e = .returned (.int .i64 (d.most : Int)) ∧ ∃ k, w' = w.drewN k := by
  obtain ⟨A1, k1, rfl⟩ := h.disks.shape
  obtain ⟨A2, k2, rfl⟩ := h.tapes.shape
  have h1 := h.disks
  have h2 := h.tapes
  rw [natV_int] at h1 h2
  refine most_any w r A1 A2 _ _ k1 k2 (p.disks.map Int.ofNat) (p.tapes.map Int.ofNat) h.c0 h.c1 (iat_of_vec h1) (iat_of_vec h2) (by simp) (by simp) (by have := hok.shape; have := hok.n12; omega) j (d.most : Int) ?_
  rw [← List.map_append, List.getElem?_map, (hok.most j d hd).1]
  rfl
theorem bytesTy : ElTy Try.prog 28 5 1 1 (.int .u8 0) := ⟨Try.underlying28, by kernel_rfl, by kernel_rfl, by decide⟩
theorem B8_ones (b : List UInt8) : ∀ u ∈ b.map B8, u.oneCell' = true := by
  intro u hu
  obtain ⟨x, _, rfl⟩ := List.mem_map.1 hu
  rfl
/-- A sector copied onto an empty row. -/
theorem wpList_copy_sec {w : World} {ops : Array Oper} {rest : List Oper} {o : Oper} {a : Act} {Q : Exit → Act → World → Prop} (hgd : o.guard = none) (s x : Operand)
    (ho : o.op = .call { callee := .builtin .append, args := #[s, x], argTypes := #[28, 28] })
    (D : Option Addr) (hs : a.eval s = .slice D 0 0) (A : Option Addr) (d : Nat) (b : List UInt8) (hx : a.eval x = .slice A 64 d) (hb : BAt w A b) (hl : b.length = 64)
    (h : ∀ (g c : Nat) (cs : Array Value) (w' : World), w'.heap[g]? = some (Obj.cells cs 5 (0, 0)) → cs.toList.take 64 = b.map B8 → w.heap.size ≤ g → Below w.heap.size w w' → wpList Try.prog ops Q rest (a.put o.dst (.slice (some ⟨g, 0, none⟩) 64 c)) w') : wpList Try.prog ops Q (o :: rest) a w := by
  obtain ⟨ad, rfl, hc⟩ := hb (by omega)
  refine wpList_append_vec hgd s x _ ho 1 _ bytesTy hs (Vec.nil_ w (fun _ => False) 5 1 D) ad 64 d (b.map B8) hx (by simp [hl]) (fun j u hu => ?_) (B8_ones b) (by unfold maxLen; omega) (by omega) fun v' w' row hv hg hr => ?_
  · rw [List.getElem?_map] at hu
    cases hbj : b[j]? with
    | none => rw [hbj] at hu; cases hu
    | some y =>
      rw [hbj] at hu
      injection hu with hu
      subst hu
      have hj := (List.getElem?_eq_some_iff.1 hbj).1
      rw [hc j hj]
      simp [List.getD_eq_getElem?_getD, hbj, B8]
  · rw [Nat.zero_add, List.nil_append] at hv
    obtain ⟨g, cap, cur, rfl, hf, hh, hn, hm, hsz, htk⟩ := hv.form (by omega)
    have hrow : row = none := by
      rcases hr with hr | ⟨g', cs, _, hf', _⟩
      · exact hr
      · exact hf'.elim
    subst hrow
    refine h g cap cur w' hh (by simpa using htk) ?_ ((Below.refl _ _).grown hg (Nat.le_refl _) fun g hg' => by cases hg')
    rcases hf with hf | hf
    · exact hf.elim
    · exact hf.1
/-- Bytes are not in the plant's own block. -/
theorem RefB.bytes_ne (h : RefB S w F r p left D T V W) {A : Option Addr} {b : List UInt8} (hb : BAt w A b) {w1 : World} (hk : ∀ k, k ≠ r → w1.heap[k]? = w.heap[k]?) : BAt w1 A b :=
  hb.keep fun ad k v hA hkl hv => by
    have hne : (ad.add k).block ≠ r := by
      intro e
      obtain ⟨ad', hA', hc⟩ := hb (by omega)
      rw [hA] at hA'
      injection hA' with hA'
      subst hA'
      have h1 := hc k hkl
      have h2 := h.blk
      unfold Blk at h2
      unfold World.cell? at h1
      rw [e, h2] at h1
      simp only at h1
      split at h1
      · cases h1
      · generalize (ad.add k).off = o at h1
        obtain ⟨A1, c1, e1⟩ := h.disks.shape
        obtain ⟨A2, c2, e2⟩ := h.tapes.shape
        obtain ⟨A3, c3, e3⟩ := h.has.shape
        obtain ⟨A4, c4, e4⟩ := h.waits.shape
        subst e1 e2 e3 e4
        match o, h1 with
        | 0, h1 => simp [rfCells] at h1
        | 1, h1 => simp [rfCells] at h1
        | 2, h1 => simp [rfCells] at h1
        | 3, h1 => simp [rfCells] at h1
        | 4, h1 => simp [rfCells] at h1
        | 5, h1 => simp [rfCells] at h1
        | 6, h1 => simp [rfCells] at h1
        | 7, h1 => simp [rfCells] at h1
        | 8, h1 => simp [rfCells] at h1
        | _ + 9, h1 => simp [rfCells] at h1
    simp only [World.cell?] at hv ⊢
    rw [hk _ hne]
    exact hv
end
end Go.Proofs.Ytomncfiklkhfjaa.Ref
