/- 'Len', 'Write', 'Append' of a plant, and what is asked of it. -/
import Derived.Test.YtomncfiklkhfjaaPlGive
namespace Go.Proofs.Ytomncfiklkhfjaa.Pl
open Go Go.RowKit Mem
/-- What a plant's numbers keep to while a law runs. -/
structure PM.Low (p : PM) : Prop where
  steps : p.steps < 4611686018427387904
  waits : p.waits.length ≤ 1000000000
theorem PlantAt.same {w : World} {F : Nat → Prop} {a : Nat} {p : PM} (h : PlantAt w F a p) : PlantAt w (Grow F w w) a p ∧ Mods w.heap.size F w w := ⟨h.mono fun g _ hg => .inl hg, Mods.refl _ _ _⟩
theorem PlantAt.same_drew {w : World} {F : Nat → Prop} {a : Nat} {p : PM} (h : PlantAt w F a p) (n : Nat) : PlantAt (w.drewN n) (Grow F w (w.drewN n)) a p ∧ Mods w.heap.size F w (w.drewN n) :=
  ⟨(h.mods (w' := w.drewN n) ((Mods.refl w.heap.size (fun _ => False) w).drewN n) (fun g hg _ => ⟨hg, fun x => x⟩)).mono fun g _ hg => .inl hg, (Mods.refl _ _ _).drewN n⟩
theorem num_cases (p : PM) (i : Int) : (p.num i = none ∧ (i < 0 ∨ (p.devs.length : Int) ≤ i)) ∨ ∃ (j : Nat) (d : Dev), i = (j : Int) ∧ p.num j = some j ∧ j < p.devs.length ∧ p.devs[j]? = some d := by
  cases h : p.num i with
  | none => exact .inl ⟨rfl, PM.num_none h⟩
  | some j =>
    obtain ⟨rfl, hj⟩ := PM.num_some h
    exact .inr ⟨j, p.devs[j], rfl, PM.num_nat hj, hj, List.getElem?_eq_getElem hj⟩
theorem PM.Ok.wc_le {p : PM} (h : p.Ok) {j : Nat} {d : Dev} (hd : p.devs[j]? = some d) (hl : p.waits.length ≤ 1000000000) : d.has.length + wcOf p j ≤ 4096 ∧ (if d.tape then d.has.length + wcOf p j else d.most) = d.size p.waits j := by
  have hm := (h.most j d hd).2.2
  cases ht : d.tape with
  | true =>
    have e : wcOf p j = cnt p.waits j := by unfold wcOf; rw [hd]; simp [ht]
    have := h.room j d hd ht
    unfold Dev.size
    rw [e]
    exact ⟨by omega, by simp [ht]⟩
  | false =>
    have e : wcOf p j = 0 := by unfold wcOf; rw [hd]; simp [ht]
    have := h.disk j d hd ht
    unfold Dev.size
    rw [e]
    exact ⟨by omega, by simp [ht]⟩
set_option maxHeartbeats 1000000 in
theorem len_any {w : World} {F : Nat → Prop} {a : Nat} {p : PM} (h : PlantAt w F a p) (hok : p.Ok) (hlow : p.Low) (i : Int) :
    Calls Try.prog 33 #[.pointer (some ⟨a, 0, none⟩), .int .i64 i] w fun e w' => e = .returned (.tuple #[.int .i64 (p.len i).1, .int .i64 (p.len i).2]) ∧ ∃ k, w' = w.drewN k := by
  obtain ⟨D, T, V, W, hb⟩ := h
  rcases num_cases p i with ⟨hn, hi⟩ | ⟨j, d, rfl, hn, hj, hd⟩
  · have e : p.len i = (0, 31) := by unfold PM.len; rw [hn]
    rw [e]
    go_enter Try.func33, Try.ntmps33
    go_wp2_with fail
    refine (dev_none hb i hi).mono ?_
    rintro e w1 ⟨rfl, rfl⟩
    go_wp2_with fail
    go_ret2
    exact ⟨rfl, 0, rfl⟩
  · obtain ⟨g, cap, rfl⟩ := hb.devs.form (by omega)
    have e : p.len j = (((d.size p.waits j : Nat) : Int), 0) := by unfold PM.len; rw [hn]; simp [hd]
    rw [e]
    have hw := hok.wc_le hd hlow.waits
    have HB := Lib.hid hb
    have HD := Lib.hid hd
    have HW := Lib.hid hw
    clear hb hn hd hw e
    go_enter Try.func33, Try.ntmps33
    go_wp2_with fail
    refine (dev_some HB.out j hj).mono ?_
    rintro e w1 ⟨rfl, rfl⟩
    go_wp2_with fail
    refine (size_any HB.out.devs HD.out HW.out.1).mono ?_
    rw [HW.out.2]
    rintro e w1 ⟨rfl, k, rfl⟩
    go_wp2_with fail
    go_ret2
    exact ⟨rfl, k, rfl⟩
set_option maxHeartbeats 2000000 in
theorem write_any {w : World} {F : Nat → Prop} {a : Nat} {p : PM} (h : PlantAt w F a p) (hok : p.Ok) (hlow : p.Low) (i k : Int) (A : Option Addr) (n cap : Nat) (b : List UInt8) (hb : BAt w A b) (hl : b.length = n) :
    Calls Try.prog 36 #[.pointer (some ⟨a, 0, none⟩), .int .i64 i, .int .i64 k, .slice A n cap] w fun e w' => e = .returned (.int .i64 (p.write i k b).2) ∧ PlantAt w' (Grow F w w') a (p.write i k b).1 ∧ Mods w.heap.size F w w' := by
  have HP := Lib.hid h
  obtain ⟨D, T, V, W, hp⟩ := h
  have h4 := hp.c4
  have HB := Lib.hid hp
  have HX := Lib.hid hb
  have HL := Lib.hid hl
  rcases num_cases p i with ⟨hn, hi⟩ | ⟨j, d, rfl, hn, hj, hd⟩
  · clear hp hb hl
    cases hoff : p.off with
    | true =>
      have e : p.write i k b = (p, 2) := by unfold PM.write; rw [hoff]; rfl
      rw [e]
      rw [hoff] at h4
      clear hn hoff e
      go_enter Try.func36, Try.ntmps36
      go_wp2_with fail
      refine (dev_none HB.out i hi).mono ?_
      rintro e w1 ⟨rfl, rfl⟩
      go_wp2_with fail
      go_ret
      exact ⟨rfl, HP.out.same⟩
    | false =>
      have e : p.write i k b = (p, 31) := by unfold PM.write; rw [hoff, hn]; rfl
      rw [e]
      rw [hoff] at h4
      clear hn hoff e
      go_enter Try.func36, Try.ntmps36
      go_wp2_with fail
      refine (dev_none HB.out i hi).mono ?_
      rintro e w1 ⟨rfl, rfl⟩
      go_wp2_with fail
      go_ret
      exact ⟨rfl, HP.out.same⟩
  · obtain ⟨g, c1, rfl⟩ := hp.devs.form (by omega)
    obtain ⟨m, _, _, k0, k1, _, _, _⟩ := hp.devs.cells hd
    have HD := Lib.hid hd
    have HWR : Hid (∀ x, p.write (j : Int) k b = x ↔ (if p.off then (p, 2) else if d.tape = true ∨ ¬ (0 ≤ k ∧ k < d.most) then (p, 31) else if b.length ≠ 64 then (p, 32) else p.give j k.toNat b) = x) := Lib.hid (fun x => by
      unfold PM.write
      rw [hn]
      simp only [hd])
    clear hp hb hl hn hd
    cases hoff : p.off with
    | true =>
      have e := (HWR.out (p, 2)).2 (by rw [hoff]; rfl)
      rw [e]
      rw [hoff] at h4
      clear hoff e
      go_enter Try.func36, Try.ntmps36
      go_wp2_with fail
      refine (dev_some HB.out j hj).mono ?_
      rintro e w1 ⟨rfl, rfl⟩
      go_wp2_with fail
      go_ret
      exact ⟨rfl, HP.out.same⟩
    | false =>
      rw [hoff] at h4
      have HOF := Lib.hid hoff
      clear hoff
      cases ht : d.tape with
      | true =>
        have e := (HWR.out (p, 31)).2 (by rw [HOF.out, ht]; simp)
        rw [e]
        rw [ht] at k0
        clear ht e
        go_enter Try.func36, Try.ntmps36
        go_wp2_with fail
        refine (dev_some HB.out j hj).mono ?_
        rintro e w1 ⟨rfl, rfl⟩
        go_wp2_with fail
        go_ret
        exact ⟨rfl, HP.out.same⟩
      | false =>
        rw [ht] at k0
        have HT := Lib.hid ht
        clear ht
        by_cases hk0 : k < 0
        · have e := (HWR.out (p, 31)).2 (by rw [HOF.out, HT.out]; simp; omega)
          rw [e]
          clear e
          go_enter Try.func36, Try.ntmps36
          go_wp2_with fail
          refine (dev_some HB.out j hj).mono ?_
          rintro e w1 ⟨rfl, rfl⟩
          go_wp2_with fail
          go_ret
          exact ⟨rfl, HP.out.same⟩
        · by_cases hk1 : (d.most : Int) ≤ k
          · have e := (HWR.out (p, 31)).2 (by rw [HOF.out, HT.out]; simp; omega)
            rw [e]
            clear e
            go_enter Try.func36, Try.ntmps36
            go_wp2_with fail
            refine (dev_some HB.out j hj).mono ?_
            rintro e w1 ⟨rfl, rfl⟩
            go_wp2_with fail
            go_ret
            exact ⟨rfl, HP.out.same⟩
          · by_cases hl : n = 64
            · subst hl
              obtain ⟨kk, rfl⟩ := Int.eq_ofNat_of_zero_le (show 0 ≤ k by omega)
              have e := (HWR.out (p.give j kk b)).2 (by rw [HOF.out, HT.out, HL.out]; simp; omega)
              rw [e]
              have hwc : ∀ q : PM, (q.devs = p.devs ∧ (q.waits = p.waits ∨ ∃ x, q.waits = p.waits ++ [x] ∧ x.dev = j)) → wcOf q = wcOf p := fun q ⟨q1, q2⟩ => funext fun i => by
                unfold wcOf
                rw [q1]
                split
                · rename_i hi
                  rcases q2 with q2 | ⟨x, q2, hx⟩
                  · rw [q2]
                  · rw [q2, cnt_snoc, if_neg, Nat.add_zero]
                    rintro rfl
                    rw [hx, HD.out] at hi
                    simp [HT.out] at hi
                · rfl
              have HWC := Lib.hid hwc
              clear e hwc
              go_enter Try.func36, Try.ntmps36
              go_wp2_with fail
              refine (dev_some HB.out j hj).mono ?_
              rintro e w1 ⟨rfl, rfl⟩
              go_wp2_with fail
              refine (give_any HB.out hlow.steps hok.fuse j kk A cap b HX.out HL.out hlow.waits).mono ?_
              rintro e w1 ⟨rfl, ⟨W1, h1⟩, hm1⟩
              have H1 := Lib.hid h1
              have HM1 := Lib.hid hm1
              clear h1 hm1
              go_wp2_with fail
              go_ret
              refine ⟨rfl, ⟨D, T, .slice (some ⟨g, 0, none⟩) p.devs.length c1, W1, ?_⟩, HM1.out⟩
              have := HWC.out (p.give j kk b).1 (by
                have hst := PM.step_same p
                unfold PM.give
                split
                · exact ⟨hst.2.2.1, .inr ⟨_, by rw [hst.2.2.2.1], rfl⟩⟩
                · exact ⟨hst.2.2.1, .inl hst.2.2.2.1⟩)
              rw [this]
              exact H1.out
            · have e := (HWR.out (p, 32)).2 (by rw [HOF.out, HT.out, HL.out, if_neg (by simp), if_neg (by simp; omega), if_pos hl])
              rw [e]
              have hl64 : ¬ (n : Int) = 64 := by omega
              clear e
              go_enter Try.func36, Try.ntmps36
              go_wp2_with fail
              refine (dev_some HB.out j hj).mono ?_
              rintro e w1 ⟨rfl, rfl⟩
              go_wp2_with fail
              go_ret
              exact ⟨rfl, HP.out.same⟩
end Go.Proofs.Ytomncfiklkhfjaa.Pl
