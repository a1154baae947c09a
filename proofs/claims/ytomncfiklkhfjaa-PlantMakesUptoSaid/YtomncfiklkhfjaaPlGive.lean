/- 'give': a write waits, if the step is done. -/
import Derived.Test.YtomncfiklkhfjaaPlWalk
import Derived.Test.YtomncfiklkhfjaaBig
import Derived.Outline
namespace Go.Proofs.Ytomncfiklkhfjaa.Pl
open Go Go.RowKit Mem
theorem wrTy : ElTy Try.prog 91 104 66 80 (.agg (wrRow ⟨0, 0, zeros⟩).toArray) := ⟨Try.underlying91, by kernel_rfl, by kernel_rfl, by decide⟩
theorem byteTy : ByteTy Try.prog 28 5 := ⟨Try.underlying28, Try.underlying5, by kernel_rfl⟩
theorem wrRow_len (x : Wr) (h : x.b.length = 64) : (wrRow x).length = 66 := by simp [wrRow, h]
theorem wrRow_one (x : Wr) : ∀ v ∈ wrRow x, v.oneCell' = true := by
  intro v hv
  unfold wrRow at hv
  simp at hv
  rcases hv with rfl | rfl | ⟨b, _, rfl⟩ <;> rfl
theorem PlantB.bytes_ne {w : World} {F : Nat → Prop} {a : Nat} {p : PM} {wc : Nat → Nat} {D T V W : Value} (h : PlantB w F a p wc D T V W) {A : Option Addr} {b : List UInt8} (hb : BAt w A b) {w1 : World} (hk : ∀ k, k ≠ a → w1.heap[k]? = w.heap[k]?) : BAt w1 A b :=
  hb.keep fun ad k v hA hkl hv => by
    have hne : (ad.add k).block ≠ a := by
      intro e
      obtain ⟨ad', hA', hc⟩ := hb (by omega)
      rw [hA] at hA'
      injection hA' with hA'
      subst hA'
      have h1 := hc k hkl
      have h2 := h.blk
      unfold Blk at h2
      unfold World.cell? at h1
      rw [e, h2] at h1
      simp only at h1
      split at h1
      · cases h1
      · generalize (ad.add k).off = o at h1
        obtain ⟨A1, c1, e1⟩ := h.disks.shape
        obtain ⟨A2, c2, e2⟩ := h.tapes.shape
        obtain ⟨A3, c3, e3⟩ : ∃ A c, V = .slice A p.devs.length c := by obtain ⟨ms, h1, _⟩ := h.devs; exact h1.shape
        obtain ⟨A4, c4, e4⟩ := Vec.shape h.waits
        subst e1 e2 e3 e4
        match o, h1 with
        | 0, h1 => simp [plCells] at h1
        | 1, h1 => simp [plCells] at h1
        | 2, h1 => simp [plCells] at h1
        | 3, h1 => simp [plCells] at h1
        | 4, h1 => simp [plCells] at h1
        | 5, h1 => simp [plCells] at h1
        | 6, h1 => simp [plCells] at h1
        | 7, h1 => simp [plCells] at h1
        | o + 8, h1 => simp [plCells] at h1
    unfold World.cell? at hv ⊢
    rw [hk _ hne]
    exact hv
set_option maxRecDepth 100000 in
set_option maxHeartbeats 2000000 in
theorem give_any {w : World} {F : Nat → Prop} {a : Nat} {p : PM} {wc : Nat → Nat} {D T V W : Value} (h : PlantB w F a p wc D T V W) (hs : p.steps < 4611686018427387904) (hf : p.fuseI < 9223372036854775808)
    (i k : Nat) (A : Option Addr) (cap : Nat) (b : List UInt8) (hb : BAt w A b) (hl : b.length = 64) (hwl : p.waits.length ≤ 1000000000) :
    Calls Try.prog 72 #[.pointer (some ⟨a, 0, none⟩), .int .i64 (i : Int), .int .i64 (k : Int), .slice A 64 cap] w fun e w' => e = .returned (.int .i64 (p.give i k b).2) ∧ (∃ W', PlantB w' (Grow F w w') a (p.give i k b).1 wc D T V W') ∧ Mods w.heap.size F w w' := by
  have H := Lib.hid h
  have HB := Lib.hid hb
  have HL := Lib.hid hl
  clear h hb hl
  go_enter Try.func72, Try.ntmps72
  go_wp2_with fail
  refine (step_any H.out hs hf).mono ?_
  rintro e w1 ⟨rfl, h1, hk1, hm1⟩
  have H1 := Lib.hid h1
  have HK1 := Lib.hid hk1
  have HM1 := Lib.hid hm1
  have HB1 := Lib.hid (H.out.bytes_ne HB.out hk1)
  clear h1 hk1 hm1 hs hf
  cases hst : p.step.2 with
  | false =>
    have hg : p.give i k b = (p.step.1, 2) := by unfold PM.give; rw [hst]; rfl
    go_wp2_with fail
    go_ret
    rw [hg]
    exact ⟨rfl, ⟨_, H1.out.mono fun g _ hg => .inl hg⟩, HM1.out.mono (Nat.le_refl _) fun g _ hg => by subst hg; exact H.out.own⟩
  | true =>
    have HG : Hid (p.give i k b = ({ p.step.1 with waits := p.step.1.waits ++ [⟨i, k, b⟩] }, 0)) := Lib.hid (by unfold PM.give; rw [hst]; rfl)
    clear hst
    go_wp2_with
      (refine wpList_store_all rfl 104 (.tmp 9) (.tmp 15) rfl w1.heap.size 104 Try.zeroCells104.toList (wrRow ⟨i, k, zeros⟩) rfl (by kernel_rfl) (Blk.new w1 _ _) (by kernel_rfl) (by rw [wrRow_len _ zeros_len]; kernel_rfl) (wrRow_one _) ?_
       intro w2 hb2 hg2 hz2
       have HX2 := Lib.hid hb2
       have HW2 : Hid (Below w1.heap.size w1 w2) := Lib.hid ((below_al' (.cells Try.zeroCells104 104)).grown hg2 (by simp) (fun k hk => by injection hk with hk; omega))
       have HB2 := Lib.hid (HB1.out.below HW2.out)
       clear hb2 hg2 hz2
       go_wp2_with
         (refine wpList_copy_in rfl (.tmp 17) (.tmp 18) _ rfl _ byteTy w1.heap.size 2 64 64 104 (wrRow ⟨i, k, zeros⟩) rfl HX2.out A 64 cap b rfl HB2.out HL.out (by omega) rfl (by rw [wrRow_len _ zeros_len]; omega) ?_
          intro w3 hb3 hg3 hz3
          have HX3' := Lib.hid hb3
          have HG3 := Lib.hid hg3
          clear hb3 hg3 hz3))
    have HX3 : Hid (Blk w3 w1.heap.size 104 (wrRow ⟨i, k, b⟩).toArray) := Lib.hid (by
      have e : (wrRow ⟨i, k, zeros⟩).take 2 ++ b.map B8 ++ (wrRow ⟨i, k, zeros⟩).drop (2 + 64) = wrRow ⟨i, k, b⟩ := by
        rw [List.drop_eq_nil_of_le (by rw [wrRow_len _ zeros_len]; omega)]
        simp [wrRow]
      have := HX3'.out
      rw [e] at this
      exact this)
    have HW3 : Hid (Below w1.heap.size w1 w3) := Lib.hid (HW2.out.grown HG3.out HW2.out.size (fun k hk => by injection hk with hk; omega))
    have HP3 := Lib.hid (H1.out.mods (Mods.of_below (F := fun _ => False) HW3.out) fun g hg _ => ⟨hg, fun x => x⟩)
    have h3 := HP3.out.c3
    have z3 := HP3.out.fz 3
    clear HX2 HW2 HB2 HX3' HG3 HB1
    refine Ord.region_ord [] [0, 1, 2, 3, 4, 5, 6, 7, 8, 9, 10] (by kernel_rfl) (by kernel_rfl) (by kernel_rfl) (by kernel_rfl) (Ord.ord_all [_, _, _, _, _, _, _, _, _, _, _] rfl (by kernel_rfl) ?_)
    go_wp2_with
      (refine wpList_load_mid rfl 104 (.tmp 9) rfl w1.heap.size 0 rfl (wrRow ⟨i, k, b⟩) _ (fun j v hv => by rw [Nat.zero_add]; exact (HX3.out.cell j).trans (by simpa using hv)) Try.underlying104 rfl (by rw [wrRow_len _ HL.out]; kernel_rfl) ?_
       refine wpList_buildSlice_row rfl 91 104 (.tmp 25) rfl wrTy (wrRow ⟨i, k, b⟩) rfl (wrRow_len _ HL.out) (by omega) w3.heap.size rfl ?_
       go_wp2_with
         (refine wpList_append_vec rfl (.tmp 24) (.tmp 26) _ rfl 80 _ wrTy rfl (Vec.alloc (Vec.drew HP3.out.waits) _) ⟨w3.heap.size, 0, none⟩ 1 1 (wrRow ⟨i, k, b⟩) rfl (by rw [wrRow_len _ HL.out]) (blk_news (Blk.new w3.drew _ _)) (wrRow_one _) ?c1 ?c2 ?_
          case c1 => unfold maxLen; rw [(PM.step_same p).2.2.2.1]; omega
          case c2 => rw [(PM.step_same p).2.2.2.1]; omega
          intro W4 w4 row hv4 hg4 hr4
          obtain ⟨A4, c4, rfl⟩ := hv4.shape
          have hba := ((HP3.out.blk.drew).alloc (.cells (wrRow ⟨i, k, b⟩).toArray 104)).grown hg4 (by
            rcases hr4 with rfl | ⟨g, cs, rfl, _, hh⟩
            · simp
            · intro e
              injection e with e
              subst e
              have hx := (HP3.out.blk.drew).alloc (.cells (wrRow ⟨i, k, b⟩).toArray 104)
              unfold Blk at hx
              rw [hx] at hh
              injection hh with hh
              injection hh with _ hh
              exact absurd hh (by decide))
          have h4 := (hba.cell 3).trans (show _ = some W from rfl)
          have z4 := hba.frozen 3
          have HA4 := Lib.hid hba
          have HV4 := Lib.hid hv4
          have HG4 := Lib.hid hg4
          have HR4 := Lib.hid hr4
          clear hv4 hg4 hr4 hba h3 z3))
    refine Ord.nx_end ?_
    go_wp2_with fail
    go_ret
    rw [HG.out]
    have hrow : ∀ g, row = some g → ∃ cs, w3.heap[g]? = some (Obj.cells cs 104 (0, 0)) ∨ w3.heap.size ≤ g := fun g hg => by
      rcases HR4.out with h | ⟨g', cs, h, _, hh⟩
      · rw [h] at hg
        cases hg
      · rw [h] at hg
        injection hg with hg
        subst hg
        refine ⟨cs, ?_⟩
        rcases Nat.lt_or_ge g' w3.heap.size with h' | h'
        · left
          rw [← hh]
          exact (Below.heap_alloc w3.drew _ g' h').symm
        · exact .inr h'
    have hsz4 : (w3.drew.alloc (.cells (wrRow ⟨i, k, b⟩).toArray 104)).heap.size = w3.heap.size + 1 := by
      show (w3.alloc (.cells (wrRow ⟨i, k, b⟩).toArray 104)).heap.size = _
      simp
    have hk : ∀ (g : Nat) (o : Obj), w3.heap[g]? = some o → g ≠ a → (∀ cs, o ≠ .cells cs 104 (0, 0)) →
        (w4.setCell ⟨a, 3, none⟩ (.slice A4 (p.step.1.waits.length + 1) c4)).heap[g]? = some o := fun g o ho hga hno => by
      have hlt := (Array.getElem?_eq_some_iff.1 ho).1
      rw [heap_set_ne _ _ _ _ _ hga, HG4.out.block g (by rw [hsz4]; omega) (fun e => by
        obtain ⟨cs, h | h⟩ := hrow g e.symm
        · rw [ho] at h
          injection h with h
          exact hno cs h
        · omega)]
      exact (Below.heap_alloc w3.drew _ g hlt).trans ho
    have hpa : ∀ (g : Nat) (t : TypeId) (cs : Array Value), t ≠ 93 → w3.heap[g]? = some (Obj.cells cs t (0, 0)) → g ≠ a := fun g t cs ht hg e => by
      subst e
      have := HP3.out.blk
      unfold Blk at this
      rw [hg] at this
      injection this with this
      injection this with _ this
      exact ht this
    have hty : ∀ (g : Nat) (t : TypeId) (cs : Array Value), t ≠ 93 → t ≠ 104 → w3.heap[g]? = some (Obj.cells cs t (0, 0)) →
        (w4.setCell ⟨a, 3, none⟩ (.slice A4 (p.step.1.waits.length + 1) c4)).heap[g]? = some (Obj.cells cs t (0, 0)) := fun g t cs h1 h2 hg => hk g _ hg (hpa g t cs h1 hg) fun cs' e => by
      injection e with _ e
      exact h2 e
    have hsz : w.heap.size ≤ w3.heap.size := Nat.le_trans HM1.out.size HW3.out.size
    have hmono : ∀ g, F g → Grow F w (w4.setCell ⟨a, 3, none⟩ (.slice A4 (p.step.1.waits.length + 1) c4)) g := fun g hg => .inl hg
    refine ⟨rfl, ⟨.slice A4 (p.step.1.waits.length + 1) c4, ?_, .inl H.out.own, ?_, ?_, ?_, ?_⟩, ?_⟩
    · have hb := HA4.out.set_ 3 (.slice A4 (p.step.1.waits.length + 1) c4)
      simpa [plCells, PM.fuseI] using hb
    · exact (HP3.out.disks.heap fun g cs hg => hty g _ cs (by decide) (by decide) hg).mono fun g _ hg => hmono g hg
    · exact (HP3.out.tapes.heap fun g cs hg => hty g _ cs (by decide) (by decide) hg).mono fun g _ hg => hmono g hg
    · refine (HP3.out.devs.heap (fun g cs hg => hty g _ cs (by decide) (by decide) hg) fun g es c hg => hk g _ hg (fun e => ?_) (fun cs e => by cases e)).mono fun g _ hg => hmono g hg
      subst e
      have := HP3.out.blk
      unfold Blk at this
      rw [hg] at this
      cases this
    · have hv := (HV4.out.far (p := ⟨a, 3, none⟩) HA4.out (by decide) (.slice A4 (p.step.1.waits.length + 1) c4)).mono (G := Grow F w (w4.setCell ⟨a, 3, none⟩ (.slice A4 (p.step.1.waits.length + 1) c4))) fun g hgl hg => by
        rcases hg with hg | ⟨h1, h2⟩
        · exact .inl hg
        · refine .inr ⟨?_, hgl⟩
          rw [hsz4] at h1
          omega
      unfold WaitsAt
      simpa using hv
    · refine ((((HM1.out.mono (Nat.le_refl _) fun g _ hg => by subst hg; exact H.out.own).then_below HW3.out HM1.out.size).drew.alloc hsz _).grown HG4.out (by rw [hsz4]; omega) ?_).setCell (.inl H.out.own) _
      intro g hg
      rcases HR4.out with h | ⟨g', cs, h, hf, hh⟩
      · rw [h] at hg
        cases hg
      · rw [h] at hg
        injection hg with hg
        subst hg
        exact .inl hf
end Go.Proofs.Ytomncfiklkhfjaa.Pl
