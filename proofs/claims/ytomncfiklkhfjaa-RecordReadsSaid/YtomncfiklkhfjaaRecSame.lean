/- The walk of 'same': two records. -/
import Derived.Test.YtomncfiklkhfjaaRecDecode2
import Derived.Stop.BytesEq
namespace Go.Proofs.Ytomncfiklkhfjaa.Rec
open Go.RowKit Mem Crc _root_.Go.Proofs.Ytomncfiklkhfjaa.Frame
attribute [local go_sem] S8_size R.size_ R.c0 R.c1 R.c34 R.c35 R.c36 R.c37 R.c38 R.g0 R.g1 R.g34 R.g35 R.g36 R.g37 R.g38
theorem S8_toList (bs : List UInt8) : (S8 bs).toList = bs := by rw [ByteArray.toList_eq, S8_list]
attribute [local go_sem] S8_toList
theorem seven (a b c d e f g : Bool) : a = false ∨ (a = true ∧ b = false) ∨ (a = true ∧ b = true ∧ c = false) ∨ (a = true ∧ b = true ∧ c = true ∧ d = false) ∨ (a = true ∧ b = true ∧ c = true ∧ d = true ∧ e = false) ∨ (a = true ∧ b = true ∧ c = true ∧ d = true ∧ e = true ∧ f = false) ∨ (a = true ∧ b = true ∧ c = true ∧ d = true ∧ e = true ∧ f = true ∧ g = false) ∨ (a = true ∧ b = true ∧ c = true ∧ d = true ∧ e = true ∧ f = true ∧ g = true) := by
  cases a <;> cases b <;> cases c <;> cases d <;> cases e <;> cases f <;> cases g <;> simp
theorem rootRange {w : World} {g : Nat} {t : TypeId} {r : R} {C : Option Addr} {cap : Nat} (h : Blk w g t (r.cells C cap).toArray) : w.rangeAt g 2 (r.root.map B8) := fun j v hv => by
  rw [h.cell]
  have hj : j < r.root.length := by have := (List.getElem?_eq_some_iff.1 hv).1; simpa using this
  have := r.cRoot C cap j (by have := r.h32; omega)
  rw [List.getElem?_toArray, this, ← hv]
  simp [hj, B8, List.getD]
theorem u_i64 : Try.prog.underlying 3 = some (.int .i64) := Try.underlying3
theorem u_bool : Try.prog.underlying 4 = some .bool := Try.underlying4
theorem neq_place (c d : Cpy) (w : World) : (binOp .neq 82 (.agg #[.int .i64 c.dev, .int .i64 c.pos, .int .i64 c.len, .bool c.bad]) (.agg #[.int .i64 d.dev, .int .i64 d.pos, .int .i64 d.len, .bool d.bad])).run Try.prog w = .ok (.bool (!decide (c = d))) w := by
  rw [run_neq_struct, run_equalIn_agg w 9999 _ _ _ (by kernel_rfl) (by kernel_rfl)]
  unfold Program.fieldsOf
  rw [Try.underlying82]
  have e : decide (c = d) = (c.dev == d.dev && (c.pos == d.pos && (c.len == d.len && c.bad == d.bad))) := by
    obtain ⟨a1, a2, a3, a4⟩ := c
    obtain ⟨b1, b2, b3, b4⟩ := d
    rw [Bool.eq_iff_iff]
    simp
  rw [e]
  simp [Op.eqFields, part, isAgg, run_underlying u_i64, run_underlying u_bool, run_equalIn_int w 9998 _ .i64 .i64 _ _ u_i64, run_equalIn_bool' w 9998 _ _ _ u_bool]
  cases h1 : (c.dev == d.dev) <;> cases h2 : (c.pos == d.pos) <;> cases h3 : (c.len == d.len) <;> cases h4 : (c.bad == d.bad) <;> simp_all
theorem eql_hash (a b : List UInt8) (ha : a.length = 32) (hb : b.length = 32) (w : World) : (binOp .eql 23 (.agg (a.map B8).toArray) (.agg (b.map B8).toArray)).run Try.prog w = .ok (.bool (a == b)) w :=
  run_eql_bytes w _ _ 32 arrTy Try.underlying5 (fun _ => by kernel_rfl) a b ha hb
theorem wpList_eql_bytes {P : Program} {ops : Array Oper} {rest : List Oper} {op : Oper} {a : Act} {w : World} {Q : Exit → Act → World → Prop} (hgd : Region.wanted op (yielded ops a.tmps) = true) (t e : TypeId) (n : Nat) (x y : Operand) (ty : TypeId)
    (ho : op.op = .binOp .eql t x y ty) (xs ys : List UInt8) (hx : a.eval x = .agg (xs.map B8).toArray) (hy : a.eval y = .agg (ys.map B8).toArray) (ht : P.underlying t = some (.array n e)) (he : P.underlying e = some (.int .u8)) (hsz : ∀ w, (sizeOf e).run P w = .ok 1 w)
    (hlx : xs.length = n) (hly : ys.length = n) (hg : P.eqGuardType P.depth t = false) (h : wpList P ops Q rest (a.put op.dst (.bool (xs == ys))) w) : wpList P ops Q (op :: rest) a w :=
  BigFrame.wpList_want hgd fun _ hK => by
    have hr : (binOp .eql t (.agg (xs.map B8).toArray) (.agg (ys.map B8).toArray)).run P w = .ok (.bool (xs == ys)) w := run_eql_bytes w t e n ht he hsz xs ys hlx hly
    unfold Oper.wp execOp
    simp only [ho, hx, hy, Sem.run_bind, run_eqGuard_agg w .eql t x y _ _ hg, Result.andThen_ok, hr]
    exact hK _ _ h
theorem wpList_neq_bytes {P : Program} {ops : Array Oper} {rest : List Oper} {op : Oper} {a : Act} {w : World} {Q : Exit → Act → World → Prop} (hgd : Region.wanted op (yielded ops a.tmps) = true) (t e : TypeId) (n : Nat) (x y : Operand) (ty : TypeId)
    (ho : op.op = .binOp .neq t x y ty) (xs ys : List UInt8) (hx : a.eval x = .agg (xs.map B8).toArray) (hy : a.eval y = .agg (ys.map B8).toArray) (ht : P.underlying t = some (.array n e)) (he : P.underlying e = some (.int .u8)) (hsz : ∀ w, (sizeOf e).run P w = .ok 1 w)
    (hlx : xs.length = n) (hly : ys.length = n) (hg : P.eqGuardType P.depth t = false) (h : wpList P ops Q rest (a.put op.dst (.bool (!(xs == ys)))) w) : wpList P ops Q (op :: rest) a w :=
  BigFrame.wpList_want hgd fun _ hK => by
    have hq : (Op.equalIn 10000 t (.agg (xs.map B8).toArray) (.agg (ys.map B8).toArray)).run P w = .ok (xs == ys) w := run_equalIn_bytes w 9998 t e n ht he hsz xs ys hlx hly
    have hr : (binOp .neq t (.agg (xs.map B8).toArray) (.agg (ys.map B8).toArray)).run P w = .ok (.bool (!(xs == ys))) w := by
      rw [run_neq_struct, hq]
      rfl
    unfold Oper.wp execOp
    simp only [ho, hx, hy, Sem.run_bind, run_eqGuard_agg w .neq t x y _ _ hg, Result.andThen_ok, hr]
    exact hK _ _ h
theorem hash_unit : ∀ w, (sizeOf 5).run Try.prog w = .ok 1 w := fun _ => by kernel_rfl
theorem hash_guard : Try.prog.eqGuardType Try.prog.depth 23 = false := by kernel_rfl
/-- Two records are the same. -/
def tailM (a b : R) : Bool := a.id == b.id && (a.len == b.len && (a.root == b.root && (a.idx == b.idx && (a.exp == b.exp && (a.hold == b.hold && a.gone == b.gone)))))
def sameM (a b : R) : Bool := decide (a.copies = b.copies) && tailM a b
theorem sameM_iff (a b : R) : sameM a b = true ↔ a = b := by
  obtain ⟨a1, a2, a3, a4, a5, a6, a7, a8, h⟩ := a
  obtain ⟨b1, b2, b3, b4, b5, b6, b7, b8, k⟩ := b
  simp [sameM, tailM]
  constructor
  · rintro ⟨rfl, rfl, rfl, rfl, rfl, rfl, rfl, rfl⟩; simp
  · rintro ⟨rfl, rfl, rfl, rfl, rfl, rfl, rfl, rfl⟩; simp
theorem same_len {a b : R} (h : a.copies.length ≠ b.copies.length) : sameM a b = false := by
  unfold sameM
  rw [decide_eq_false (fun e => h (by rw [e])), Bool.false_and]
theorem same_copy {a b : R} {k : Nat} {c d : Cpy} (hc : a.copies[k]? = some c) (hd : b.copies[k]? = some d) (h : c ≠ d) : sameM a b = false := by
  unfold sameM
  rw [decide_eq_false (fun e => h (by rw [e, hd] at hc; exact (Option.some.inj hc).symm)), Bool.false_and]
theorem same_all {a b : R} (hl : a.copies.length = b.copies.length) (h : ∀ j, j < a.copies.length → a.copies[j]? = b.copies[j]?) : sameM a b = tailM a b := by
  unfold sameM
  rw [decide_eq_true (List.ext_getElem? fun j => by
    rcases Nat.lt_or_ge j a.copies.length with hj | hj
    · exact h j hj
    · rw [List.getElem?_eq_none hj, List.getElem?_eq_none (by omega)]), Bool.true_and]
/-- What holds at the head of a round. -/
def SameRel (w : World) (a b : R) (C D : Option Addr) (ca cb : Nat) (iv : Value) (wr : World) : Prop :=
  ∃ k : Nat, k ≤ a.copies.length ∧ iv = .int .i64 k ∧ (∀ j, j < k → a.copies[j]? = b.copies[j]?) ∧ Below w.heap.size w wr ∧ Blk wr w.heap.size 26 (a.cells C ca).toArray ∧ Blk wr (w.heap.size + 1) 26 (b.cells D cb).toArray
attribute [local go_sem ↓] Go.wp_at_zero Go.wp_at_succ
set_option maxRecDepth 100000 in
set_option maxHeartbeats 20000000 in
theorem same_any (a b : R) (C D : Option Addr) (ca cb : Nat) (w : World) (hla : a.copies.length ≤ 140737488355328) (hlb : b.copies.length ≤ 140737488355328) (hC : CAt w C a.copies) (hD : CAt w D b.copies) :
    Calls Try.prog 22 #[.agg (a.cells C ca).toArray, .agg (b.cells D cb).toArray] w fun e w' => e = .returned (.bool (sameM a b)) ∧ Below w.heap.size w w' := by
  have HC := Lib.hid hC
  have HD := Lib.hid hD
  have HA := Lib.hid ((Blk.new w 26 (a.cells C ca).toArray).alloc (.cells (b.cells D cb).toArray 26))
  have HB := Lib.hid (Blk.new_at (w.alloc (.cells (a.cells C ca).toArray 26)) (w.heap.size + 1) (by simp) 26 (b.cells D cb).toArray)
  have HW := Lib.hid (show Below w.heap.size w ((w.alloc (.cells (a.cells C ca).toArray 26)).alloc (.cells (b.cells D cb).toArray 26)) from ((Below.refl _ _).alloc (Nat.le_refl _) _).alloc (by simp) _)
  clear hC hD
  by_cases hl : a.copies.length = b.copies.length
  · have hne : (((a.copies.length : Nat) : Int) != ((b.copies.length : Nat) : Int)) = false := by simp; omega
    go_enter Try.func22, Try.ntmps22
    go_wp2_with fail
    have HL := Lib.hid hl
    clear hl hne
    go_loopw [5] (fun iv wr => SameRel w a b C D ca cb iv wr) (fun iv _ => a.copies.length - (intOf iv).toNat)
    case atStart => exact ⟨0, Nat.zero_le _, rfl, fun j h => absurd h (by omega), HW.out, HA.out, HB.out⟩
    case round =>
      obtain ⟨k, hk, rfl, hj, hW, hA, hB⟩ := hrel
      have HJ := Lib.hid hj
      have HW1 := Lib.hid hW
      have HA1 := Lib.hid hA
      have HB1 := Lib.hid hB
      clear hj hW hA hB
      obtain ⟨a0, a1, a34, a35, a36, a37, a38⟩ := RAt.of_blk HA1.out
      obtain ⟨b0, b1, b34, b35, b36, b37, b38⟩ := RAt.of_blk HB1.out
      by_cases hlt : k < a.copies.length
      · clear a0 a1 a34 a35 a36 a37 b0 b1 b34 b35 b36 b37
        obtain ⟨c, hc⟩ : ∃ c, a.copies[k]? = some c := ⟨_, List.getElem?_eq_getElem hlt⟩
        obtain ⟨d, hd⟩ : ∃ d, b.copies[k]? = some d := ⟨_, List.getElem?_eq_getElem (by rw [← HL.out]; exact hlt)⟩
        obtain ⟨ad, rfl, c0, c1, c2, c3⟩ := (HC.out.below HW1.out) k c hc
        obtain ⟨bd, rfl, d0, d1, d2, d3⟩ := (HD.out.below HW1.out) k d hd
        have HCK := Lib.hid hc
        have HDK := Lib.hid hd
        have hneq := fun W => neq_place c d W
        have k0 : (0 : Int) ≤ (k : Int) := by omega
        have ka : (k : Int) < (a.copies.length : Int) := by omega
        have kb : (k : Int) < (b.copies.length : Int) := by have := HL.out; omega
        have kb' : k < b.copies.length := by omega
        clear hc hd
        go_wp2_with fail
        by_cases hcd : c = d
        · have hdd : decide (c = d) = true := decide_eq_true hcd
          have HCD := Lib.hid hcd
          clear hcd
          go_region_held3 (fun w' => w'.cell? ⟨w.heap.size, 38, none⟩ = some (.slice (some ad) a.copies.length ca) ∧ w'.cell? ⟨w.heap.size + 1, 38, none⟩ = some (.slice (some bd) b.copies.length cb) ∧ w'.cell? (ad.add (k * 4)) = some (.int .i64 c.dev) ∧ w'.cell? ⟨(ad.add (k * 4)).block, (ad.add (k * 4)).off + 1, none⟩ = some (.int .i64 c.pos) ∧ w'.cell? ⟨(ad.add (k * 4)).block, (ad.add (k * 4)).off + 2, none⟩ = some (.int .i64 c.len) ∧ w'.cell? ⟨(ad.add (k * 4)).block, (ad.add (k * 4)).off + 3, none⟩ = some (.bool c.bad) ∧ w'.cell? (bd.add (k * 4)) = some (.int .i64 d.dev) ∧ w'.cell? ⟨(bd.add (k * 4)).block, (bd.add (k * 4)).off + 1, none⟩ = some (.int .i64 d.pos) ∧ w'.cell? ⟨(bd.add (k * 4)).block, (bd.add (k * 4)).off + 2, none⟩ = some (.int .i64 d.len) ∧ w'.cell? ⟨(bd.add (k * 4)).block, (bd.add (k * 4)).off + 3, none⟩ = some (.bool d.bad))
            (first | exact ⟨a38, b38, c0, c1, c2, c3, d0, d1, d2, d3⟩) (fail)
          clear c0 c1 c2 c3 d0 d1 d2 d3 hneq
          go_wp2
          go_roundw
          case rel =>
            refine ⟨k + 1, hlt, by go_num, fun j hj => ?_, below_drewN HW1.out 1, HA1.out.drew, HB1.out.drew⟩
            rcases Nat.lt_or_ge j k with h | h
            · exact HJ.out j h
            · obtain rfl : j = k := by omega
              rw [HCK.out, HDK.out, HCD.out]
          case measure => simp [intOf]; omega
        · have hdd : decide (c = d) = false := decide_eq_false hcd
          have HF := Lib.hid (same_copy HCK.out HDK.out hcd)
          clear hcd
          go_region_held3 (fun w' => w'.cell? ⟨w.heap.size, 38, none⟩ = some (.slice (some ad) a.copies.length ca) ∧ w'.cell? ⟨w.heap.size + 1, 38, none⟩ = some (.slice (some bd) b.copies.length cb) ∧ w'.cell? (ad.add (k * 4)) = some (.int .i64 c.dev) ∧ w'.cell? ⟨(ad.add (k * 4)).block, (ad.add (k * 4)).off + 1, none⟩ = some (.int .i64 c.pos) ∧ w'.cell? ⟨(ad.add (k * 4)).block, (ad.add (k * 4)).off + 2, none⟩ = some (.int .i64 c.len) ∧ w'.cell? ⟨(ad.add (k * 4)).block, (ad.add (k * 4)).off + 3, none⟩ = some (.bool c.bad) ∧ w'.cell? (bd.add (k * 4)) = some (.int .i64 d.dev) ∧ w'.cell? ⟨(bd.add (k * 4)).block, (bd.add (k * 4)).off + 1, none⟩ = some (.int .i64 d.pos) ∧ w'.cell? ⟨(bd.add (k * 4)).block, (bd.add (k * 4)).off + 2, none⟩ = some (.int .i64 d.len) ∧ w'.cell? ⟨(bd.add (k * 4)).block, (bd.add (k * 4)).off + 3, none⟩ = some (.bool d.bad))
            (first | exact ⟨a38, b38, c0, c1, c2, c3, d0, d1, d2, d3⟩) (fail)
          go_wp2
          go_ret
          exact ⟨by rw [HF.out]; rfl, below_drewN HW1.out 1⟩
      · obtain rfl : k = a.copies.length := by omega
        have HALL := Lib.hid (same_all HL.out HJ.out)
        have HRA := Lib.hid (rootRange HA1.out)
        have HRB := Lib.hid (rootRange HB1.out)
        clear a38 b38
        have a38' := (RAt.of_blk HA1.out).h38
        rcases seven (a.id == b.id) (a.len == b.len) (a.root == b.root) (a.idx == b.idx) (a.exp == b.exp) (a.hold == b.hold) (a.gone == b.gone) with e1 | ⟨e1, e2⟩ | ⟨e1, e2, e3⟩ | ⟨e1, e2, e3, e4⟩ | ⟨e1, e2, e3, e4, e5⟩ | ⟨e1, e2, e3, e4, e5, e6⟩ | ⟨e1, e2, e3, e4, e5, e6, e7⟩ | ⟨e1, e2, e3, e4, e5, e6, e7⟩
        case inr.inr.inr.inr.inr.inr.inr =>
          have HT := Lib.hid (show tailM a b = true by unfold tailM; rw [e1, e2, e3, e4, e5, e6, e7]; rfl)
          go_wp2_with (first
            | (refine wpList_load_mid_g (op := ⟨some 45, _, _, _, _, _⟩) (by rfl) 23 (.tmp 44) rfl w.heap.size 2 rfl (a.root.map B8) _ HRA.out arrTy rfl (by rw [hash_size]; simp [a.h32]) ?_
               go_wp2_with (first
                 | (refine wpList_load_mid_g (op := ⟨some 47, _, _, _, _, _⟩) (by rfl) 23 (.tmp 46) rfl (w.heap.size + 1) 2 rfl (b.root.map B8) _ HRB.out arrTy rfl (by rw [hash_size]; simp [b.h32]) ?_
                    refine wpList_eql_bytes (op := ⟨some 48, _, _, _, _, _⟩) (by rfl) 23 5 32 (.tmp 45) (.tmp 47) _ rfl a.root b.root rfl rfl arrTy Try.underlying5 hash_unit a.h32 b.h32 hash_guard ?_
                    go_wp2_with fail
                    go_ret
                    rw [HALL.out, HT.out]
                    exact ⟨rfl, HW1.out⟩)
                 | fail))
            | fail)
        case inr.inr.inl =>
          have HT := Lib.hid (show tailM a b = false by unfold tailM; rw [e1, e2, e3]; rfl)
          go_wp2_with (first
            | (refine wpList_load_mid_g (op := ⟨some 45, _, _, _, _, _⟩) (by rfl) 23 (.tmp 44) rfl w.heap.size 2 rfl (a.root.map B8) _ HRA.out arrTy rfl (by rw [hash_size]; simp [a.h32]) ?_
               go_wp2_with (first
                 | (refine wpList_load_mid_g (op := ⟨some 47, _, _, _, _, _⟩) (by rfl) 23 (.tmp 46) rfl (w.heap.size + 1) 2 rfl (b.root.map B8) _ HRB.out arrTy rfl (by rw [hash_size]; simp [b.h32]) ?_
                    refine wpList_eql_bytes (op := ⟨some 48, _, _, _, _, _⟩) (by rfl) 23 5 32 (.tmp 45) (.tmp 47) _ rfl a.root b.root rfl rfl arrTy Try.underlying5 hash_unit a.h32 b.h32 hash_guard ?_
                    go_wp2_with fail
                    go_ret
                    rw [HALL.out, HT.out]
                    exact ⟨rfl, HW1.out⟩)
                 | fail))
            | fail)
        case inr.inr.inr.inl =>
          have HT := Lib.hid (show tailM a b = false by unfold tailM; rw [e1, e2, e3, e4]; rfl)
          go_wp2_with (first
            | (refine wpList_load_mid_g (op := ⟨some 45, _, _, _, _, _⟩) (by rfl) 23 (.tmp 44) rfl w.heap.size 2 rfl (a.root.map B8) _ HRA.out arrTy rfl (by rw [hash_size]; simp [a.h32]) ?_
               go_wp2_with (first
                 | (refine wpList_load_mid_g (op := ⟨some 47, _, _, _, _, _⟩) (by rfl) 23 (.tmp 46) rfl (w.heap.size + 1) 2 rfl (b.root.map B8) _ HRB.out arrTy rfl (by rw [hash_size]; simp [b.h32]) ?_
                    refine wpList_eql_bytes (op := ⟨some 48, _, _, _, _, _⟩) (by rfl) 23 5 32 (.tmp 45) (.tmp 47) _ rfl a.root b.root rfl rfl arrTy Try.underlying5 hash_unit a.h32 b.h32 hash_guard ?_
                    go_wp2_with fail
                    go_ret
                    rw [HALL.out, HT.out]
                    exact ⟨rfl, HW1.out⟩)
                 | fail))
            | fail)
        case inr.inr.inr.inr.inl =>
          have HT := Lib.hid (show tailM a b = false by unfold tailM; rw [e1, e2, e3, e4, e5]; rfl)
          go_wp2_with (first
            | (refine wpList_load_mid_g (op := ⟨some 45, _, _, _, _, _⟩) (by rfl) 23 (.tmp 44) rfl w.heap.size 2 rfl (a.root.map B8) _ HRA.out arrTy rfl (by rw [hash_size]; simp [a.h32]) ?_
               go_wp2_with (first
                 | (refine wpList_load_mid_g (op := ⟨some 47, _, _, _, _, _⟩) (by rfl) 23 (.tmp 46) rfl (w.heap.size + 1) 2 rfl (b.root.map B8) _ HRB.out arrTy rfl (by rw [hash_size]; simp [b.h32]) ?_
                    refine wpList_eql_bytes (op := ⟨some 48, _, _, _, _, _⟩) (by rfl) 23 5 32 (.tmp 45) (.tmp 47) _ rfl a.root b.root rfl rfl arrTy Try.underlying5 hash_unit a.h32 b.h32 hash_guard ?_
                    go_wp2_with fail
                    go_ret
                    rw [HALL.out, HT.out]
                    exact ⟨rfl, HW1.out⟩)
                 | fail))
            | fail)
        case inr.inr.inr.inr.inr.inl =>
          have HT := Lib.hid (show tailM a b = false by unfold tailM; rw [e1, e2, e3, e4, e5, e6]; rfl)
          go_wp2_with (first
            | (refine wpList_load_mid_g (op := ⟨some 45, _, _, _, _, _⟩) (by rfl) 23 (.tmp 44) rfl w.heap.size 2 rfl (a.root.map B8) _ HRA.out arrTy rfl (by rw [hash_size]; simp [a.h32]) ?_
               go_wp2_with (first
                 | (refine wpList_load_mid_g (op := ⟨some 47, _, _, _, _, _⟩) (by rfl) 23 (.tmp 46) rfl (w.heap.size + 1) 2 rfl (b.root.map B8) _ HRB.out arrTy rfl (by rw [hash_size]; simp [b.h32]) ?_
                    refine wpList_eql_bytes (op := ⟨some 48, _, _, _, _, _⟩) (by rfl) 23 5 32 (.tmp 45) (.tmp 47) _ rfl a.root b.root rfl rfl arrTy Try.underlying5 hash_unit a.h32 b.h32 hash_guard ?_
                    go_wp2_with fail
                    go_ret
                    rw [HALL.out, HT.out]
                    exact ⟨rfl, HW1.out⟩)
                 | fail))
            | fail)
        case inr.inr.inr.inr.inr.inr.inl =>
          have HT := Lib.hid (show tailM a b = false by unfold tailM; rw [e1, e2, e3, e4, e5, e6, e7]; rfl)
          go_wp2_with (first
            | (refine wpList_load_mid_g (op := ⟨some 45, _, _, _, _, _⟩) (by rfl) 23 (.tmp 44) rfl w.heap.size 2 rfl (a.root.map B8) _ HRA.out arrTy rfl (by rw [hash_size]; simp [a.h32]) ?_
               go_wp2_with (first
                 | (refine wpList_load_mid_g (op := ⟨some 47, _, _, _, _, _⟩) (by rfl) 23 (.tmp 46) rfl (w.heap.size + 1) 2 rfl (b.root.map B8) _ HRB.out arrTy rfl (by rw [hash_size]; simp [b.h32]) ?_
                    refine wpList_eql_bytes (op := ⟨some 48, _, _, _, _, _⟩) (by rfl) 23 5 32 (.tmp 45) (.tmp 47) _ rfl a.root b.root rfl rfl arrTy Try.underlying5 hash_unit a.h32 b.h32 hash_guard ?_
                    go_wp2_with fail
                    go_ret
                    rw [HALL.out, HT.out]
                    exact ⟨rfl, HW1.out⟩)
                 | fail))
            | fail)
        case inl =>
          have HT := Lib.hid (show tailM a b = false by unfold tailM; rw [e1]; rfl)
          go_wp2_with fail
          go_ret
          rw [HALL.out, HT.out]
          exact ⟨rfl, HW1.out⟩
        case inr.inl =>
          have HT := Lib.hid (show tailM a b = false by unfold tailM; rw [e1, e2]; rfl)
          go_wp2_with fail
          go_ret
          rw [HALL.out, HT.out]
          exact ⟨rfl, HW1.out⟩
  · have hne : (((a.copies.length : Nat) : Int) != ((b.copies.length : Nat) : Int)) = true := by simp; omega
    have HF := Lib.hid (same_len hl)
    clear hl
    go_enter Try.func22, Try.ntmps22
    go_wp2
    go_ret
    exact ⟨by rw [HF.out]; rfl, HW.out⟩
end Go.Proofs.Ytomncfiklkhfjaa.Rec
