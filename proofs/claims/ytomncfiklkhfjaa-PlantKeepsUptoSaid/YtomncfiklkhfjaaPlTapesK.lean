/- The walk of 'PlantTapes' (printed by wip/gen_tapes.py). -/
import Derived.Test.YtomncfiklkhfjaaPlShown
import Derived.Test.YtomncfiklkhfjaaPlTapesP
namespace Go.Proofs.Ytomncfiklkhfjaa.Pl.Tapes
open Go Go.RowKit Mem
def blkOf (bs : List UInt8) (i : Nat) : List UInt8 := fullB (bs.getD i 0)
theorem blkOf_len (bs : List UInt8) (i : Nat) : (blkOf bs i).length = 64 := fullB_len _
/-- What holds at the head of a round of the first loop. -/
def R1 (W : World) (a : Nat) (bs : List UInt8) (f m : Nat) (iv : Value) (wr : World) : Prop :=
  ∃ (i j k s c : Nat) (F : Nat → Prop), i ≤ m ∧ iv = .int .i64 (i : Int) ∧ j + k = i ∧ (i ≤ f ∧ j = 0 ∨ f < i ∧ j = f) ∧ Below W.heap.size W wr ∧ c ≤ 2 * i ∧ St W.heap.size wr F a (TM (hasOf (blkOf bs) j) (wrs (blkOf bs) j k) s) c
def R2 (W : World) (a : Nat) (H : List (List UInt8)) (s c : Nat) (F : Nat → Prop) (iv : Value) (wr : World) : Prop :=
  ∃ i : Nat, i ≤ H.length ∧ iv = .int .i64 (i : Int) ∧ Below W.heap.size W wr ∧ St W.heap.size wr F a (TM H [] s) c
theorem byteAt {bs : List UInt8} {A : Option Addr} {w : World} (h : BAt w A bs) {i : Nat} (hi : i < bs.length) : ∃ ad, A = some ad ∧ ∀ w', Below w.heap.size w w' → w'.cell? (ad.add i) = some (.int .u8 (V8 (bs.getD i 0))) := by
  obtain ⟨ad, hA, hc⟩ := h (by omega)
  exact ⟨ad, hA, fun w' hb => (hb.cell (cell_lt (hc i hi))).trans (hc i hi)⟩
theorem iat_lt {zs : List Int} {A : Option Addr} {w : World} (h : IAt w A zs) (hne : zs ≠ []) (ad : Addr) (hA : A = some ad) : ad.block < w.heap.size := by
  rcases h with h | ⟨ad', hA', hc⟩
  · exact absurd h hne
  · rw [hA] at hA'
    injection hA' with hA'
    subst hA'
    cases zs with
    | nil => exact absurd rfl hne
    | cons z zs => exact cell_lt (hc 0 z rfl)
theorem tape_app (bs : List UInt8) {j k i s : Nat} (h : j + k = i) (hi : i < 40) : (TM (hasOf (blkOf bs) j) (wrs (blkOf bs) j k) s).append 1 (blkOf bs i) = (TM (hasOf (blkOf bs) j) (wrs (blkOf bs) j (k + 1)) (s + 1), (i : Int), 0) := by
  rw [TM_append (blkOf bs) (blkOf_len bs) _ _ s i (wrs_dev _ _ _) (by rw [hasOf_len, wrs_len]; exact h) _ (blkOf_len bs i), if_neg (by omega), wrs_next, h]
theorem run_append_half {w : World} {g : Nat} {old : List UInt8} (hb : Blk w g 5 (cellsOf old)) (hl : old.length = 64) :
    ∃ w', (Builtin.append_ #[28, 3] 28 #[.slice (some ⟨g, 0, none⟩) 32 64, .int .i64 32]).run Try.prog w = .ok (.slice (some ⟨g, 0, none⟩) 64 64) w' ∧ Blk w' g 5 (cellsOf (torn old)) ∧ w.grownBy w' (some g) := by
  obtain ⟨i, hi, hz, hs, hby⟩ := elByte.info
  have hzl : (Builtin.zeroCells #[.int .u8 0] 32).toList.length = 32 := by kernel_rfl
  have hone := zeroCells_one (zs := #[.int .u8 0]) (by intro v hv; simp at hv; subst hv; rfl) 32
  have hrun := run_storeCells_cells (P := Try.prog) g 32 (Builtin.zeroCells #[.int .u8 0] 32).toList 0 w (fun j hj => by rw [hb.cell]; simp [cellsOf]; omega) (fun j hj => hb.frozen _) hone
  have hb2 : Blk w g 5 (old.map B8).toArray := hb
  obtain ⟨k1, k2, k3⟩ := setCells_blk (Builtin.zeroCells #[.int .u8 0] 32).toList (old.map B8) 32 w hb2 (by rw [hzl, List.length_map]; omega)
  refine ⟨w.setCells g 32 (Builtin.zeroCells #[.int .u8 0] 32).toList, ?_, ?_, k2⟩
  · simp only [Nat.add_zero] at hrun
    have hw : IntKind.i64.wrap (32 : Int) = (32 : Int) := IntWalk.i64_in _ (by omega)
    simp [Builtin.append_, run_underlying Try.underlying28, run_underlying Try.underlying3, sizeOf, typeInfo, zeroValue, hi, hz, hs, hby, asInt, asIntOf, hw, Addr.add, Value.cells, hrun]
  · have e : (List.take 32 (old.map B8) ++ (Builtin.zeroCells #[.int .u8 0] 32).toList ++ List.drop (32 + (Builtin.zeroCells #[.int .u8 0] 32).toList.length) (old.map B8)).toArray = cellsOf (torn old) := by
      have hz8 : (Builtin.zeroCells #[.int .u8 0] 32).toList = (List.replicate 32 (0 : UInt8)).map B8 := by kernel_rfl
      rw [hzl, List.drop_eq_nil_of_le (by rw [List.length_map]; omega), hz8]
      unfold cellsOf torn
      simp
    rw [← e]
    exact k1
theorem own_blk {w : World} {base g : Nat} {bs : List UInt8} (h : Own w base 5 (some ⟨g, 0, none⟩) 64 64 bs) : Blk w g 5 (cellsOf bs) ∧ base ≤ g := by
  obtain ⟨_, h2⟩ := h
  rcases h2 with ⟨h0, _⟩ | ⟨g', cap', cur, hv, hg, hh, hn, hcap, hsz, htake⟩
  · cases h0
  · cases hv
    refine ⟨?_, hg⟩
    have e : cur = cellsOf bs := by
      rw [List.take_of_length_le (by simp [hsz])] at htake
      unfold cellsOf
      rw [← htake]
    rw [← e]
    exact hh
theorem wpList_append_want {P : Program} {w : World} {ops : Array Oper} {rest : List Oper} {o : Oper} {a : Act} {Q : Exit → Act → World → Prop} (hgd : Region.wanted o (yielded ops a.tmps) = true) (s x : Operand) (t tx : TypeId)
    (ho : o.op = .call { callee := .builtin .append, args := #[s, x], argTypes := #[t, tx] }) (vs vx v : Value) (w' : World) (hs : a.eval s = vs) (hx : a.eval x = vx)
    (hrun : (Builtin.append_ #[t, tx] o.type #[vs, vx]).run P w = .ok v w') (h : wpList P ops Q rest (a.put o.dst v) w') : wpList P ops Q (o :: rest) a w :=
  BigFrame.wpList_want hgd fun _ hK => by
    subst hs hx
    unfold Oper.wp execOp
    simp only [ho, resolve, invoke, builtin, Sem.run_bind, Sem.run_pure, Result.andThen_ok, List.map_toArray, List.map_cons, List.map_nil, hrun]
    exact hK _ _ h
end Go.Proofs.Ytomncfiklkhfjaa.Pl.Tapes
