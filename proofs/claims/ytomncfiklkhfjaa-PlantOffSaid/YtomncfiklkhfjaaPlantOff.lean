/- 'munimentlaw03.PlantOff' returns true for every input, and each argument reads as it read. -/
import Derived.Test.YtomncfiklkhfjaaPlOffN
import Derived.Test.YtomncfiklkhfjaaPlRow
import Derived.Test.YtomncfiklkhfjaaPlainKit
namespace Go.Proofs.Ytomncfiklkhfjaa.PlantOff
open Go.ChangeShapes Go.WideShapes Go.ChangeAt Go.RowKit Mem Law _root_.Go.Proofs.Ytomncfiklkhfjaa.Pl
theorem readable : ∀ t ∈ Try.f11.params.toList, Try.prog.readableRec t = true ∧ t < Try.prog.types.size := by
  rw [Try.params11]
  intro t ht
  simp at ht
  rcases ht with rfl | rfl <;> exact ⟨by kernel_rfl, of_decide_eq_true (by kernel_rfl)⟩
set_option maxRecDepth 100000 in
theorem contract (H : Type) (enc : TypeId × Value → H) (W : World) (base : Nat) (args : Array Value) (ds gs : List (DataW H)) (before : List MemPlace)
    (hval : ∀ (j : Nat) t v, Try.f11.params[j]? = some t → args[j]? = some v → Value.okWide Try.prog W .any base t v)
    (hW : DataW.Whole enc Try.prog Try.f11.params.toList Rows.plantOffSpec.vars false W args.toList ds gs before)
    : Calls Try.prog 11 args W fun e W' => ∃ v, e = .returned v ∧ Rows.plantOffSpec.post enc Try.prog Try.f11 false true false false W args v W' := by
  have hW' := hW
  obtain ⟨p, q, hA0, hV, rfl, hfz, hnd⟩ := hW
  have hA : DataW.TrodAll enc Try.prog W 0 (fun _ => true) true Try.f11.params.toList args.toList ds p := hA0
  rw [Try.params11] at hA hval
  obtain ⟨v0, vs0, d0, ds0, p0, q0, hargs, rfl, rfl, h0, r0⟩ := trodAll_cons hA
  obtain ⟨v1, vs1, d1, ds1, p1, q1, rfl, rfl, rfl, h1, r1⟩ := trodAll_cons r0
  obtain ⟨rfl, rfl, rfl⟩ := trodAll_nil r1
  obtain rfl : args = #[v0, v1] := by cases args; simp_all
  obtain ⟨rfl, rfl⟩ := trodVars_none hV
  obtain ⟨A0, n0, cap0, bs0, rfl, hb0, hn0, hcap0, hmax0, hd0⟩ := open_bytes Try.underlying28 Try.underlying5 cellsU8 (hval 0 _ _ rfl rfl) h0
  obtain ⟨z1, rfl, rfl, rfl, hz1⟩ := open_int Try.underlying3 (hval 1 _ _ rfl rfl) h1
  have hz := wf_i64 hz1
  have hm : n0 ≤ 9223372036854775807 := by unfold maxLen at hmax0; omega
  have hlaw : Calls Try.prog 11 #[.slice A0 n0 cap0, .int .i64 z1] W fun e W' => e = .returned (.bool true) ∧ Below W.heap.size W W' := by
    by_cases hneg : z1 < 0
    · exact Off.lawOffN A0 bs0 n0 cap0 z1 W hb0 hn0 hm hz.1 (by have := hz.2; omega) hneg
    · exact Off.lawOff A0 bs0 n0 cap0 z1 W hb0 hn0 hm hz.1 (by have := hz.2; omega) hneg
  refine hlaw.mono fun e W' ⟨he, hbw⟩ => ?_
  subst he
  exact ⟨_, rfl, post_law hW' rfl (by kernel_rfl) Try.underlying4 rfl laidOut readable hbw⟩
theorem reads (os : Os) {H : Type} (enc : TypeId × Value → H) : ∃ places, DataW.whole enc Try.prog ((World.holding Try.prog os ⟨#[], #[], []⟩).forCall (fun _ _ => 0) ⟨#[], #[.slice none 0 0, .int .i64 0], []⟩).memory Try.f11.params.toList Rows.plantOffSpec.vars false (#[.slice none 0 0, .int .i64 0] : Array Value).toList 8 = some ([.nil, .lit (.int .i64 0)], [], places) :=
  ⟨[], by kernel_rfl⟩
set_option maxRecDepth 100000 in
theorem lifted (os : Os) (started : os.Started) (H : Type) (enc : TypeId × Value → H) (F : Stop.Interp) :
    ReturnsInHanded {} Try.checked os 11 .any ((OpenSpec.ofChange Rows.plantOffSpec).preRow enc Try.prog Try.f11 Rows.plantOffRow.domain false Rows.plantOffRow.laid) (((OpenSpec.ofChange Rows.plantOffSpec).at F).post enc Try.prog Try.f11 false true false false) := by
  obtain ⟨places, hx⟩ := reads os enc
  refine returnsInHanded_of_row (C := Try.checked) (s := OpenSpec.ofChange Rows.plantOffSpec) own started (by kernel_rfl) Try.func11
    (witness_row_at (enc := enc) (C := Try.checked) false (World.holding Try.prog os ⟨#[], #[], []⟩) #[.slice none 0 0, .int .i64 0] rfl (by kernel_rfl) (by kernel_rfl) (by kernel_rfl)
      (OpenSpec.preRow_of_cond 8 hx (by kernel_rfl) (fun k hk => by cases hk) (by kernel_rfl) (laidMet_nil _ _))) ?_
  intro W base args ds gs before hval hW _ _ _ _ _ _
  exact contract H enc W base args ds gs before hval hW
theorem said : Rows.PlantOffSaid :=
  OpenClaim.holds_of_cond 11 Try.f11 rfl rfl rfl rfl rfl rfl rfl ⟨rfl, rfl, rfl, rfl, rfl⟩ rfl rfl rfl rfl rfl (by kernel_rfl) Try.func11 (by kernel_rfl)
    (of_decide_eq_true (by kernel_rfl)) (by unfold Func.isWrapper; first | (rw [if_pos (by decide +kernel)]; kernel_rfl) | (rw [if_neg (by decide +kernel)]; exact ⟨rfl, rfl⟩))
    (fun os started H enc _ F => by rw [OpenClaim.pre_eq_preRow]; exact lifted os started H enc F)
end Go.Proofs.Ytomncfiklkhfjaa.PlantOff
