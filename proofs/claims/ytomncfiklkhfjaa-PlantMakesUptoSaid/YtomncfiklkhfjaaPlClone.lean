/- 'slices.Clone' at the element types of a plant, and its shape. -/
import Derived.Test.YtomncfiklkhfjaaPlMisc
namespace Go.Proofs.Ytomncfiklkhfjaa.Pl
open Go Go.RowKit Mem
theorem _root_.Go.Proofs.Ytomncfiklkhfjaa.Mem.Vec.nil_none {w : World} {F : Nat → Prop} {e : TypeId} {size n cap : Nat} {xs : List Value} (h : Vec w F e size (.slice none n cap) n xs) : n = 0 ∧ xs = [] := by
  obtain ⟨A, c, he, hl, ⟨h1, _⟩ | ⟨g, cur, hA, _⟩⟩ := h
  · subst h1
    exact ⟨rfl, List.eq_nil_of_length_eq_zero (by simpa using hl)⟩
  · injection he with he
    rw [hA] at he
    cases he
theorem _root_.Go.Proofs.Ytomncfiklkhfjaa.Mem.Vec.news {w : World} {F : Nat → Prop} {e : TypeId} {size n cap : Nat} {xs : List Value} {ad : Addr} (h : Vec w F e size (.slice (some ad) n cap) n xs) : ∀ j u, xs[j]? = some u → w.cell? (ad.add j) = some u := fun j u hu => by
  obtain ⟨g, he, hc⟩ := h.cell j u hu
  injection he with he
  subst he
  rw [add_off, Nat.zero_add]
  exact hc
/-- What the call gives back: a slice of its own. -/
def RetV (w : World) (e : TypeId) (size n : Nat) (xs : List Value) (en : Ending) (w' : World) : Prop :=
  ∃ v, en = .returned v ∧ Vec w' (fun g => w.heap.size ≤ g ∧ g < w'.heap.size) e size v n xs ∧ Below w.heap.size w w'
theorem intTy : ElTy Try.prog 42 3 1 8 (.int .i64 0) := ⟨Try.underlying42, by kernel_rfl, by kernel_rfl, by decide⟩
theorem devTy : ElTy Try.prog 90 97 5 40 (.agg #[.bool false, .int .i64 0, .map none, .int .i64 0, .int .i64 0]) := ⟨Try.underlying90, by kernel_rfl, by kernel_rfl, by decide⟩
set_option maxHeartbeats 1000000 in
theorem cloneInts_any {w : World} {F : Nat → Prop} {v : Value} {n : Nat} {xs : List Value} (h : Vec w F 3 1 v n xs) (h1 : ∀ u ∈ xs, u.oneCell' = true) (hn : n ≤ 1000000000) :
    Calls Try.prog 63 #[v] w (RetV w 3 1 n xs) := by
  obtain ⟨A, cap, rfl⟩ := h.shape
  have H := Lib.hid h
  have H1 := Lib.hid h1
  clear h h1
  cases A with
  | none =>
    have he : ∀ W, (binOp .eql 42 (.slice none n cap) (.slice none 0 0)).run Try.prog W = .ok (.bool true) W := fun W => Lib.run_eql_slice_nil W 42 3 none n cap 0 0 Try.underlying42
    go_enter Try.func63, Try.ntmps63
    go_wp2_with fail
    go_ret
    obtain ⟨rfl, hx⟩ := H.out.nil_none
    rw [hx]
    exact ⟨_, rfl, Vec.nil_ _ _ _ _ _, Below.refl _ _⟩
  | some ad =>
    have he : ∀ W, (binOp .eql 42 (.slice (some ad) n cap) (.slice none 0 0)).run Try.prog W = .ok (.bool false) W := fun W => Lib.run_eql_slice_nil W 42 3 (some ad) n cap 0 0 Try.underlying42
    go_enter Try.func63, Try.ntmps63
    go_wp2_with
      (at_builtin
       refine wpList_append_vec rfl (.tmp 5) (.tmp 6) _ rfl 8 _ intTy rfl (Vec.nil_ _ (fun _ => False) 3 1 (some ⟨w.heap.size, 0, none⟩)) ad n cap xs rfl H.out.len (H.out.alloc _).news H1.out ?c1 ?c2 ?_
       case c1 => unfold maxLen; omega
       case c2 => omega
       intro v2 w2 row hv2 hg2 hr2
       have HV2 := Lib.hid hv2
       have HG2 := Lib.hid hg2
       have HR2 := Lib.hid hr2
       clear hv2 hg2 hr2)
    go_ret
    refine ⟨v2, rfl, ?_, ?_⟩
    · have hv := HV2.out
      rw [Nat.zero_add, List.nil_append] at hv
      exact hv.mono fun g hg h => by
        rcases h with h | ⟨h, _⟩
        · exact h.elim
        · exact ⟨by simp at h; omega, hg⟩
    · refine (below_al' _).grown HG2.out (by simp) (fun g hg => ?_)
      rcases HR2.out with h | ⟨g', cs, _, h, _⟩
      · rw [h] at hg; cases hg
      · exact h.elim
set_option maxHeartbeats 1000000 in
theorem cloneWr_any {w : World} {F : Nat → Prop} {v : Value} {n : Nat} {xs : List Value} (h : Vec w F 104 66 v n xs) (h1 : ∀ u ∈ xs, u.oneCell' = true) (hn : n ≤ 1000000000) :
    Calls Try.prog 73 #[v] w (RetV w 104 66 n xs) := by
  obtain ⟨A, cap, rfl⟩ := h.shape
  have H := Lib.hid h
  have H1 := Lib.hid h1
  clear h h1
  cases A with
  | none =>
    have he : ∀ W, (binOp .eql 91 (.slice none n cap) (.slice none 0 0)).run Try.prog W = .ok (.bool true) W := fun W => Lib.run_eql_slice_nil W 91 104 none n cap 0 0 Try.underlying91
    go_enter Try.func73, Try.ntmps73
    go_wp2_with fail
    go_ret
    obtain ⟨rfl, hx⟩ := H.out.nil_none
    rw [hx]
    exact ⟨_, rfl, Vec.nil_ _ _ _ _ _, Below.refl _ _⟩
  | some ad =>
    have he : ∀ W, (binOp .eql 91 (.slice (some ad) n cap) (.slice none 0 0)).run Try.prog W = .ok (.bool false) W := fun W => Lib.run_eql_slice_nil W 91 104 (some ad) n cap 0 0 Try.underlying91
    go_enter Try.func73, Try.ntmps73
    go_wp2_with
      (at_builtin
       refine wpList_append_vec rfl (.tmp 5) (.tmp 6) _ rfl 80 _ wrTy rfl (Vec.nil_ _ (fun _ => False) 104 66 (some ⟨w.heap.size, 0, none⟩)) ad n cap xs rfl H.out.len (H.out.alloc _).news H1.out ?c1 ?c2 ?_
       case c1 => unfold maxLen; omega
       case c2 => omega
       intro v2 w2 row hv2 hg2 hr2
       have HV2 := Lib.hid hv2
       have HG2 := Lib.hid hg2
       have HR2 := Lib.hid hr2
       clear hv2 hg2 hr2)
    go_ret
    refine ⟨v2, rfl, ?_, ?_⟩
    · have hv := HV2.out
      rw [Nat.zero_add, List.nil_append] at hv
      exact hv.mono fun g hg h => by
        rcases h with h | ⟨h, _⟩
        · exact h.elim
        · exact ⟨by simp at h; omega, hg⟩
    · refine (below_al' _).grown HG2.out (by simp) (fun g hg => ?_)
      rcases HR2.out with h | ⟨g', cs, _, h, _⟩
      · rw [h] at hg; cases hg
      · exact h.elim
set_option maxHeartbeats 1000000 in
theorem cloneDev_any {w : World} {F : Nat → Prop} {v : Value} {n : Nat} {xs : List Value} (h : Vec w F 97 5 v n xs) (h1 : ∀ u ∈ xs, u.oneCell' = true) (hn : n ≤ 1000000000) :
    Calls Try.prog 74 #[v] w (RetV w 97 5 n xs) := by
  obtain ⟨A, cap, rfl⟩ := h.shape
  have H := Lib.hid h
  have H1 := Lib.hid h1
  clear h h1
  cases A with
  | none =>
    have he : ∀ W, (binOp .eql 90 (.slice none n cap) (.slice none 0 0)).run Try.prog W = .ok (.bool true) W := fun W => Lib.run_eql_slice_nil W 90 97 none n cap 0 0 Try.underlying90
    go_enter Try.func74, Try.ntmps74
    go_wp2_with fail
    go_ret
    obtain ⟨rfl, hx⟩ := H.out.nil_none
    rw [hx]
    exact ⟨_, rfl, Vec.nil_ _ _ _ _ _, Below.refl _ _⟩
  | some ad =>
    have he : ∀ W, (binOp .eql 90 (.slice (some ad) n cap) (.slice none 0 0)).run Try.prog W = .ok (.bool false) W := fun W => Lib.run_eql_slice_nil W 90 97 (some ad) n cap 0 0 Try.underlying90
    go_enter Try.func74, Try.ntmps74
    go_wp2_with
      (at_builtin
       refine wpList_append_vec rfl (.tmp 5) (.tmp 6) _ rfl 40 _ devTy rfl (Vec.nil_ _ (fun _ => False) 97 5 (some ⟨w.heap.size, 0, none⟩)) ad n cap xs rfl H.out.len (H.out.alloc _).news H1.out ?c1 ?c2 ?_
       case c1 => unfold maxLen; omega
       case c2 => omega
       intro v2 w2 row hv2 hg2 hr2
       have HV2 := Lib.hid hv2
       have HG2 := Lib.hid hg2
       have HR2 := Lib.hid hr2
       clear hv2 hg2 hr2)
    go_ret
    refine ⟨v2, rfl, ?_, ?_⟩
    · have hv := HV2.out
      rw [Nat.zero_add, List.nil_append] at hv
      exact hv.mono fun g hg h => by
        rcases h with h | ⟨h, _⟩
        · exact h.elim
        · exact ⟨by simp at h; omega, hg⟩
    · refine (below_al' _).grown HG2.out (by simp) (fun g hg => ?_)
      rcases HR2.out with h | ⟨g', cs, _, h, _⟩
      · rw [h] at hg; cases hg
      · exact h.elim
end Go.Proofs.Ytomncfiklkhfjaa.Pl
