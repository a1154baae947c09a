/- An argument that is a record, opened: its parts, its copies in memory, and their reach. -/
import Derived.Test.YtomncfiklkhfjaaRecBack
import Derived.Test.YtomncfiklkhfjaaPlainKit
import Derived.OpenShut
namespace Go.Proofs.Ytomncfiklkhfjaa.Rec
open Go.RowKit Go.ChangeShapes Go.WideShapes Go.ChangeAt Mem Law _root_.Go.Proofs.Ytomncfiklkhfjaa.Frame
variable {H : Type} {enc : TypeId × Value → H}
theorem cells9 : Try.prog.cellsOf 9 = 1 := by kernel_rfl
theorem cells3 : Try.prog.cellsOf 3 = 1 := by kernel_rfl
theorem cells4 : Try.prog.cellsOf 4 = 1 := by kernel_rfl
theorem cells23 : Try.prog.cellsOf 23 = 32 := by kernel_rfl
theorem cells24 : Try.prog.cellsOf 24 = 1 := by kernel_rfl
theorem cells26 : Try.prog.cellsOf 26 = 39 := by kernel_rfl
theorem cells82 : Try.prog.cellsOf 82 = 4 := by kernel_rfl
theorem bytes82 : Try.prog.bytesOf 82 = 32 := by kernel_rfl
theorem parts39 (cs : List Value) (h : cs.length = 39) : cs = (cs.drop 0).take 1 ++ ((cs.drop 1).take 1 ++ ((cs.drop 2).take 32 ++ ((cs.drop 34).take 1 ++ ((cs.drop 35).take 1 ++ ((cs.drop 36).take 1 ++ ((cs.drop 37).take 1 ++ (cs.drop 38).take 1)))))) := by
  have e : ∀ i j : Nat, cs.drop i = (cs.drop i).take j ++ cs.drop (i + j) := fun i j => by rw [← List.drop_drop, List.take_append_drop]
  have h0 : cs = cs.drop 0 := rfl
  have h38 : (cs.drop 38).take 1 = cs.drop 38 := List.take_of_length_le (by simp; omega)
  rw [h38]
  conv => lhs; rw [h0, e 0 1, e (0 + 1) 1, e (0 + 1 + 1) 32, e (0 + 1 + 1 + 32) 1, e (0 + 1 + 1 + 32 + 1) 1, e (0 + 1 + 1 + 32 + 1 + 1) 1, e (0 + 1 + 1 + 32 + 1 + 1 + 1) 1]
theorem list_pick {α : Type} (n : Nat) (Q : Nat → α → Prop) (h : ∀ i, i < n → ∃ x, Q i x) : ∃ l : List α, l.length = n ∧ ∀ (i : Nat) (hi : i < l.length), Q i l[i] := by
  induction n with
  | zero => exact ⟨[], rfl, fun i hi => absurd hi (by simp)⟩
  | succ n ih =>
    obtain ⟨l, hl, hq⟩ := ih fun i hi => h i (by omega)
    obtain ⟨x, hx⟩ := h n (by omega)
    refine ⟨l ++ [x], by simp [hl], fun i hi => ?_⟩
    rcases Nat.lt_or_ge i n with hlt | hge
    · rw [List.getElem_append_left (by omega)]
      exact hq i (by omega)
    · obtain rfl : i = n := by simp [hl] at hi; omega
      simpa [List.getElem_append_right, hl] using hx
/-- 32 bytes. -/
theorem open_root {W : World} {fuel : Nat} {cs : List Value} {x : DataW H × List MemPlace} (h : DataW.trod enc Try.prog W 0 (fun _ => true) true fuel 23 cs = some x) : ∃ bs : List UInt8, bs.length = 32 ∧ cs = bs.map B8 := by
  obtain ⟨xs, m, _, _, hl, hxl, hf⟩ := DataW.trod_array Try.underlying23 h
  rw [cells23] at hl
  have hb : ∀ i, i < 32 → ∃ b : UInt8, cs[i]? = some (B8 b) := fun i hi => by
    have h1 := hf i hi
    rw [cellsU8, Nat.mul_one, List.getElem?_eq_getElem (by omega)] at h1
    obtain ⟨n, h2, _, hw⟩ := DataW.trod_int Try.underlying5 h1
    have hn := wf_u8 hw
    refine ⟨UInt8.ofNat n.toNat, ?_⟩
    have h3 : ((cs.drop i).take 1)[0]? = some (.int .u8 n) := by rw [h2]; rfl
    have h4 : cs[i]? = some (.int .u8 n) := by simpa using h3
    rw [h4]
    exact congrArg (fun z => some (Value.int .u8 z)) (V8_ofInt n hn.1 hn.2)
  obtain ⟨l, hll, hq⟩ := list_pick (α := UInt8) 32 (fun i b => cs[i]? = some (B8 b)) hb
  refine ⟨l, hll, List.ext_getElem? fun i => ?_⟩
  rcases Nat.lt_or_ge i 32 with hi | hi
  · rw [hq i (by omega)]
    simp [show i < l.length by omega]
  · rw [List.getElem?_eq_none (by omega), List.getElem?_eq_none (by simp; omega)]
set_option maxRecDepth 100000 in
/-- A place's four cells. -/
theorem open_place {W : World} {fuel : Nat} {cs : List Value} {x : DataW H × List MemPlace} (h : DataW.trod enc Try.prog W 0 (fun _ => true) true fuel 82 cs = some x) : ∃ c : Cpy, cs = c.cells := by
  obtain ⟨xs, k, _, _, hl, hlen, hf⟩ := DataW.trod_struct Try.underlying82 h
  rw [cells82] at hl
  match xs, hlen with
  | [y0, y1, y2, y3], _ =>
    have g0 : DataW.trod enc Try.prog W 0 (fun _ => true) true k 3 ((cs.drop 0).take (Try.prog.cellsOf 3)) = some y0 := hf 0 _ rfl
    have g1 : DataW.trod enc Try.prog W 0 (fun _ => true) true k 3 ((cs.drop 1).take (Try.prog.cellsOf 3)) = some y1 := hf 1 _ rfl
    have g2 : DataW.trod enc Try.prog W 0 (fun _ => true) true k 3 ((cs.drop 2).take (Try.prog.cellsOf 3)) = some y2 := hf 2 _ rfl
    have g3 : DataW.trod enc Try.prog W 0 (fun _ => true) true k 4 ((cs.drop 3).take (Try.prog.cellsOf 4)) = some y3 := hf 3 _ rfl
    rw [cells3] at g0 g1 g2
    rw [cells4] at g3
    obtain ⟨a, e0, _⟩ := DataW.trod_int Try.underlying3 g0
    obtain ⟨b, e1, _⟩ := DataW.trod_int Try.underlying3 g1
    obtain ⟨c, e2, _⟩ := DataW.trod_int Try.underlying3 g2
    obtain ⟨d, e3, _⟩ := DataW.trod_bool Try.underlying4 g3
    match cs, hl with
    | [v0, v1, v2, v3], _ =>
      simp at e0 e1 e2 e3
      exact ⟨⟨a, b, c, d⟩, by rw [e0, e1, e2, e3]; rfl⟩
/-- A slice of places. -/
theorem open_places {W : World} {fuel : Nat} {cs : List Value} {x : DataW H × List MemPlace} (h : DataW.trod enc Try.prog W 0 (fun _ => true) true fuel 24 cs = some x) :
    ∃ (C : Option Addr) (cap : Nat) (l : List Cpy), cs = [.slice C l.length cap] ∧ CAt W C l ∧ ((x.1.weights Try.prog 24).all (· ≤ reachBytes) = true → l.length ≤ 140737488355328) := by
  rcases DataW.trod_slice Try.underlying24 h with ⟨rfl, rfl⟩ | ⟨a, n, cap, elems, rest, m, _, rfl, rfl, _, hl, _, hlen, hel, _, _⟩
  · exact ⟨none, 0, [], rfl, fun k c hk => by simp at hk, fun _ => by simp⟩
  · obtain ⟨l, hll, hq⟩ := list_pick (α := Cpy) n (fun i c => ∀ j, j < 4 → W.cell? ((a.add (i * 4)).add j) = c.cells[j]?) fun i hi => by
      have h1 := hel i hi
      rw [List.getElem?_eq_getElem (by omega), cells82, Option.bind_eq_some_iff] at h1
      obtain ⟨cs', hcs', hy⟩ := h1
      obtain ⟨c, rfl⟩ := open_place hy
      exact ⟨c, (World.cells?_some hcs').2.2⟩
    refine ⟨some a, cap, l, by rw [hll], fun k c hk => ⟨a, rfl, ?_⟩, fun hr => ?_⟩
    · have hkl : k < l.length := (List.getElem?_eq_some_iff.1 hk).1
      have hc : l[k] = c := by rw [List.getElem?_eq_getElem hkl] at hk; exact Option.some.inj hk
      have g := hq k hkl
      rw [hc] at g
      refine ⟨?_, g 1 (by decide), g 2 (by decide), g 3 (by decide)⟩
      have := g 0 (by decide)
      rwa [addr_zero] at this
    · simp only [DataW.weights, Try.underlying24, bytes82, List.all_cons, Bool.and_eq_true, decide_eq_true_eq] at hr
      have h1 := hr.1
      simp [reachBytes] at h1
      omega
set_option maxRecDepth 100000 in
/-- A record among the arguments. -/
theorem open_rec {W : World} {rr : Reach} {b0 : Nat} {v : Value} {d : DataW H} {ps : List MemPlace} (hval : Value.okWide Try.prog W rr b0 26 v) (h : DataW.Trod enc Try.prog W 0 (fun _ => true) true 26 v d ps) :
    ∃ (r : R) (C : Option Addr) (cap : Nat), v = .agg (r.cells C cap).toArray ∧ CAt W C r.copies ∧ ((d.weights Try.prog 26).all (· ≤ reachBytes) = true → r.id.length ≤ 140737488355000 ∧ r.copies.length ≤ 140737488355328) := by
  obtain ⟨cs, rfl, hsz⟩ := okWide_struct Try.underlying26 hval
  rw [cells26] at hsz
  obtain ⟨fuel, hf⟩ := h
  have hvc : (Value.agg cs).cells.toList = cs.toList := rfl
  rw [hvc] at hf
  obtain ⟨xs, k, _, hx, hl, hlen, hf⟩ := DataW.trod_struct Try.underlying26 hf
  obtain ⟨cs⟩ := cs
  simp only [List.size_toArray] at hsz
  match xs, hlen with
  | [y0, y1, y2, y3, y4, y5, y6, y7], _ =>
    simp only at hf
    have g0 : DataW.trod enc Try.prog W 0 (fun _ => true) true k 9 ((cs.drop 0).take (Try.prog.cellsOf 9)) = some y0 := hf 0 _ rfl
    have g1 : DataW.trod enc Try.prog W 0 (fun _ => true) true k 3 ((cs.drop 1).take (Try.prog.cellsOf 3)) = some y1 := hf 1 _ rfl
    have g2 : DataW.trod enc Try.prog W 0 (fun _ => true) true k 23 ((cs.drop 2).take (Try.prog.cellsOf 23)) = some y2 := hf 2 _ rfl
    have g3 : DataW.trod enc Try.prog W 0 (fun _ => true) true k 3 ((cs.drop 34).take (Try.prog.cellsOf 3)) = some y3 := hf 3 _ rfl
    have g4 : DataW.trod enc Try.prog W 0 (fun _ => true) true k 3 ((cs.drop 35).take (Try.prog.cellsOf 3)) = some y4 := hf 4 _ rfl
    have g5 : DataW.trod enc Try.prog W 0 (fun _ => true) true k 4 ((cs.drop 36).take (Try.prog.cellsOf 4)) = some y5 := hf 5 _ rfl
    have g6 : DataW.trod enc Try.prog W 0 (fun _ => true) true k 4 ((cs.drop 37).take (Try.prog.cellsOf 4)) = some y6 := hf 6 _ rfl
    have g7 : DataW.trod enc Try.prog W 0 (fun _ => true) true k 24 ((cs.drop 38).take (Try.prog.cellsOf 24)) = some y7 := hf 7 _ rfl
    rw [cells9] at g0
    rw [cells3] at g1 g3 g4
    rw [cells23] at g2
    rw [cells4] at g5 g6
    rw [cells24] at g7
    obtain ⟨s, e0, x0, _⟩ := DataW.trod_string Try.underlying9 g0
    obtain ⟨a1, e1, x1, _⟩ := DataW.trod_int Try.underlying3 g1
    obtain ⟨root, h32, e2⟩ := open_root g2
    obtain ⟨a3, e3, x3, _⟩ := DataW.trod_int Try.underlying3 g3
    obtain ⟨a4, e4, x4, _⟩ := DataW.trod_int Try.underlying3 g4
    obtain ⟨a5, e5, x5⟩ := DataW.trod_bool Try.underlying4 g5
    obtain ⟨a6, e6, x6⟩ := DataW.trod_bool Try.underlying4 g6
    obtain ⟨C, cap, l, e7, hC, hr⟩ := open_places g7
    refine ⟨⟨s.data.toList, a1, root, a3, a4, a5, a6, l, h32⟩, C, cap, ?_, hC, fun hw => ?_⟩
    · congr 2
      rw [parts39 cs hsz, e0, e1, e2, e3, e4, e5, e6, e7]
      simp [R.cells, S8_of]
    · simp only [Prod.mk.injEq] at hx
      rw [hx.1] at hw
      simp only [DataW.weights, Try.underlying26, List.map_cons, List.map_nil, DataW.weightsEach, List.all_append, Bool.and_eq_true] at hw
      obtain ⟨w0, _, _, _, _, _, _, w7, _⟩ := hw
      refine ⟨?_, hr w7⟩
      rw [x0] at w0
      have w0' : s.data.toList.length ≤ reachBytes := by simpa [DataW.weights] using w0
      have hre : reachBytes = 140737488351232 := rfl
      show s.data.toList.length ≤ _
      omega
end Go.Proofs.Ytomncfiklkhfjaa.Rec
