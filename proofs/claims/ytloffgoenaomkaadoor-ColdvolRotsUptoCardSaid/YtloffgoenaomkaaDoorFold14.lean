/- Records in plain terms: what may be, how it is written, how bytes are read. No program. -/
import Derived.Test.YtloffgoenaomkaaDoorFold8
import Derived.Laws.Strings
import Derived.Test.YtloffgoenaomkaaDoorCol5
import Derived.Test.YtloffgoenaomkaaDoorFold0
import Derived.Lib.AppendStr
import Derived.Laws.IdiomStrings
import Derived.Deep.MidRow
namespace Go.Proofs.YtloffgoenaomkaaDoor.Rec
open Go Go.RowKit Mem _root_.Go.Proofs.YtloffgoenaomkaaDoor.Frame
/-- A string of these bytes. -/
def S8 (bs : List UInt8) : ByteArray := ⟨bs.toArray⟩
theorem S8_size (bs : List UInt8) : (S8 bs).size = bs.length := by simp [S8, ByteArray.size]
theorem S8_list (bs : List UInt8) : (S8 bs).data.toList = bs := by simp [S8]
theorem S8_of (s : ByteArray) : S8 s.data.toList = s := by simp [S8]
theorem S8_inj {a b : List UInt8} : S8 a = S8 b ↔ a = b := by simp [S8]
/-- A character's number, kept whole. -/
def chr (bs : List UInt8) (k : Nat) : Int := V8 (bs.getD k 0)
theorem S8_at (bs : List UInt8) (k : Nat) (h : k < (S8 bs).size) : (((S8 bs)[k]'h).toNat : Int) = chr bs k := by
  rw [S8_size] at h
  have : (S8 bs)[k]'(by rw [S8_size]; exact h) = bs.getD k 0 := by
    simp [S8, List.getD, h]
    rfl
  rw [this]
  rfl
/-- A character of a name. -/
def okc (c : UInt8) : Bool := decide ((97 ≤ V8 c ∧ V8 c ≤ 122) ∨ (48 ≤ V8 c ∧ V8 c ≤ 57) ∨ V8 c = 45 ∨ V8 c = 46)
/-- P11.1. -/
def nameM (bs : List UInt8) : Bool := decide (1 ≤ bs.length ∧ bs.length ≤ 16) && bs.all okc
theorem name_bad {bs : List UInt8} {k : Nat} (hk : k < bs.length) (h : okc (bs.getD k 0) = false) : nameM bs = false := by
  unfold nameM
  rw [Bool.and_eq_false_iff]
  right
  rw [List.all_eq_false]
  refine ⟨bs[k], List.getElem_mem hk, ?_⟩
  rw [show bs.getD k 0 = bs[k] by simp [List.getD, hk]] at h
  simp [h]
theorem name_all {bs : List UInt8} (h : ∀ k, k < bs.length → okc (bs.getD k 0) = true) : nameM bs = decide (1 ≤ bs.length ∧ bs.length ≤ 16) := by
  unfold nameM
  have : bs.all okc = true := by
    rw [List.all_eq_true]
    intro x hx
    obtain ⟨k, hk, rfl⟩ := List.mem_iff_getElem.1 hx
    have := h k hk
    rwa [show bs.getD k 0 = bs[k] by simp [List.getD, hk]] at this
  rw [this, Bool.and_true]
/-- A copy's place. -/
structure Cpy where
  dev : Int
  pos : Int
  len : Int
  bad : Bool
  deriving DecidableEq
/-- A record. -/
structure R where
  id : List UInt8
  len : Int
  root : List UInt8
  idx : Int
  exp : Int
  hold : Bool
  gone : Bool
  copies : List Cpy
  h32 : root.length = 32
def within (n most : Int) : Bool := decide (0 ≤ n ∧ n ≤ most)
def Cpy.may (c : Cpy) : Bool := within c.dev 11 && (within c.pos 4095 && within c.len 255)
/-- P11.1, P11.2: what a record may be. -/
def R.may (r : R) : Bool :=
  r.copies.all Cpy.may && (nameM r.id && (within r.len 512 && (within r.idx 2147483647 && (within r.exp 1099511627776 && decide (r.copies.length ≤ 8)))))
theorem may_bad {r : R} {k : Nat} {c : Cpy} (hk : r.copies[k]? = some c) (h : c.may = false) : r.may = false := by
  have : r.copies.all Cpy.may = false := by
    rw [List.all_eq_false]
    exact ⟨c, List.mem_of_getElem? hk, by simp [h]⟩
  unfold R.may
  rw [this, Bool.false_and]
theorem may_all {r : R} (h : ∀ j c, j < r.copies.length → r.copies[j]? = some c → c.may = true) :
    r.may = (nameM r.id && (within r.len 512 && (within r.idx 2147483647 && (within r.exp 1099511627776 && decide (r.copies.length ≤ 8))))) := by
  have : r.copies.all Cpy.may = true := by
    rw [List.all_eq_true]
    intro c hc
    obtain ⟨j, hj, rfl⟩ := List.mem_iff_getElem.1 hc
    exact h j _ hj (List.getElem?_eq_getElem hj)
  unfold R.may
  rw [this, Bool.true_and]
/-- All of a record but its copies may be. -/
def R.head (r : R) : Bool := nameM r.id && (within r.len 512 && (within r.idx 2147483647 && (within r.exp 1099511627776 && decide (r.copies.length ≤ 8))))
theorem may_head {r : R} (h : r.head = false) : r.may = false := by
  unfold R.may
  rw [show (nameM r.id && (within r.len 512 && (within r.idx 2147483647 && (within r.exp 1099511627776 && decide (r.copies.length ≤ 8))))) = false from h, Bool.and_false]
theorem head_iff (r : R) : r.head = true ↔ nameM r.id = true ∧ 0 ≤ r.len ∧ r.len ≤ 512 ∧ 0 ≤ r.idx ∧ r.idx ≤ 2147483647 ∧ 0 ≤ r.exp ∧ r.exp ≤ 1099511627776 ∧ r.copies.length ≤ 8 := by
  unfold R.head within
  simp [and_assoc]
theorem head_false {r : R} (h : ¬ (nameM r.id = true ∧ 0 ≤ r.len ∧ r.len ≤ 512 ∧ 0 ≤ r.idx ∧ r.idx ≤ 2147483647 ∧ 0 ≤ r.exp ∧ r.exp ≤ 1099511627776 ∧ r.copies.length ≤ 8)) : r.may = false :=
  may_head (by rw [← Bool.not_eq_true, head_iff]; exact h)
theorem cpy_iff (c : Cpy) : c.may = true ↔ 0 ≤ c.dev ∧ c.dev ≤ 11 ∧ 0 ≤ c.pos ∧ c.pos ≤ 4095 ∧ 0 ≤ c.len ∧ c.len ≤ 255 := by
  unfold Cpy.may within
  simp [and_assoc]
theorem cpy_false {c : Cpy} (h : ¬ (0 ≤ c.dev ∧ c.dev ≤ 11 ∧ 0 ≤ c.pos ∧ c.pos ≤ 4095 ∧ 0 ≤ c.len ∧ c.len ≤ 255)) : c.may = false := by
  rw [← Bool.not_eq_true, cpy_iff]; exact h
theorem head_cases (r : R) : nameM r.id = false ∨ (nameM r.id = true ∧ r.len < 0) ∨ (nameM r.id = true ∧ ¬ r.len < 0 ∧ 512 < r.len) ∨ (nameM r.id = true ∧ ¬ r.len < 0 ∧ ¬ 512 < r.len ∧ r.idx < 0) ∨
    (nameM r.id = true ∧ ¬ r.len < 0 ∧ ¬ 512 < r.len ∧ ¬ r.idx < 0 ∧ 2147483647 < r.idx) ∨ (nameM r.id = true ∧ ¬ r.len < 0 ∧ ¬ 512 < r.len ∧ ¬ r.idx < 0 ∧ ¬ 2147483647 < r.idx ∧ r.exp < 0) ∨
    (nameM r.id = true ∧ ¬ r.len < 0 ∧ ¬ 512 < r.len ∧ ¬ r.idx < 0 ∧ ¬ 2147483647 < r.idx ∧ ¬ r.exp < 0 ∧ 1099511627776 < r.exp) ∨
    (nameM r.id = true ∧ ¬ r.len < 0 ∧ ¬ 512 < r.len ∧ ¬ r.idx < 0 ∧ ¬ 2147483647 < r.idx ∧ ¬ r.exp < 0 ∧ ¬ 1099511627776 < r.exp ∧ (8 : Int) < (r.copies.length : Int)) ∨
    (nameM r.id = true ∧ ¬ r.len < 0 ∧ ¬ 512 < r.len ∧ ¬ r.idx < 0 ∧ ¬ 2147483647 < r.idx ∧ ¬ r.exp < 0 ∧ ¬ 1099511627776 < r.exp ∧ ¬ (8 : Int) < (r.copies.length : Int)) := by
  cases nameM r.id
  · exact .inl rfl
  · simp only [true_and]
    omega
theorem cpy_cases (c : Cpy) : c.dev < 0 ∨ (¬ c.dev < 0 ∧ 12 ≤ c.dev) ∨ (¬ c.dev < 0 ∧ ¬ 12 ≤ c.dev ∧ c.pos < 0) ∨ (¬ c.dev < 0 ∧ ¬ 12 ≤ c.dev ∧ ¬ c.pos < 0 ∧ 4096 ≤ c.pos) ∨
    (¬ c.dev < 0 ∧ ¬ 12 ≤ c.dev ∧ ¬ c.pos < 0 ∧ ¬ 4096 ≤ c.pos ∧ c.len < 0) ∨ (¬ c.dev < 0 ∧ ¬ 12 ≤ c.dev ∧ ¬ c.pos < 0 ∧ ¬ 4096 ≤ c.pos ∧ ¬ c.len < 0 ∧ 255 < c.len) ∨
    (¬ c.dev < 0 ∧ ¬ 12 ≤ c.dev ∧ ¬ c.pos < 0 ∧ ¬ 4096 ≤ c.pos ∧ ¬ c.len < 0 ∧ ¬ 255 < c.len) := by omega
def flags (h g : Bool) : UInt8 := (if h then 1 else 0) + (if g then 2 else 0)
def Cpy.bytes (c : Cpy) : List UInt8 := [UInt8.ofNat c.dev.toNat] ++ beB c.pos.toNat 2 ++ [UInt8.ofNat c.len.toNat, if c.bad then 1 else 0]
/-- P11.4: the head that records and entries share. -/
def headB (id : List UInt8) (len : Int) (root : List UInt8) : List UInt8 := [UInt8.ofNat id.length] ++ id ++ beB len.toNat 2 ++ root
/-- P11.2. -/
def R.bytes (r : R) : List UInt8 :=
  headB r.id r.len r.root ++ beB r.idx.toNat 4 ++ beB r.exp.toNat 6 ++ [flags r.hold r.gone, UInt8.ofNat r.copies.length] ++ (r.copies.map Cpy.bytes).flatten
def R.encode (r : R) : Option (List UInt8) := if r.may then some r.bytes else none
def entryM (id : List UInt8) (len : Int) (root : List UInt8) : Option (List UInt8) :=
  if nameM id && within len 512 then some (headB id len root) else none
theorem may_true {r : R} (h : r.may = true) : r.head = true ∧ ∀ c ∈ r.copies, c.may = true := by
  unfold R.may at h
  rw [Bool.and_eq_true] at h
  exact ⟨h.2, List.all_eq_true.1 h.1⟩
/-! ### As values -/
def Cpy.cells (c : Cpy) : List Value := [.int .i64 c.dev, .int .i64 c.pos, .int .i64 c.len, .bool c.bad]
def R.cells (r : R) (C : Option Addr) (cap : Nat) : List Value :=
  [.string (S8 r.id), .int .i64 r.len] ++ r.root.map B8 ++ [.int .i64 r.idx, .int .i64 r.exp, .bool r.hold, .bool r.gone, .slice C r.copies.length cap]
section
variable (r : R) (C : Option Addr) (cap : Nat)
theorem R.size_ : (r.cells C cap).length = 39 := by simp [R.cells, r.h32]
theorem R.c0 : (r.cells C cap)[0]? = some (.string (S8 r.id)) := by simp [R.cells]
theorem R.c1 : (r.cells C cap)[1]? = some (.int .i64 r.len) := by simp [R.cells]
theorem R.cRoot (k : Nat) (h : k < 32) : (r.cells C cap)[2 + k]? = some (.int .u8 (V8 (r.root.getD k 0))) := by
  have := r.h32
  simp [R.cells, List.getElem?_append, show k < r.root.length by omega, B8, List.getD, Nat.add_comm 2 k]
theorem R.c34 : (r.cells C cap)[34]? = some (.int .i64 r.idx) := by simp [R.cells, r.h32]
theorem R.c35 : (r.cells C cap)[35]? = some (.int .i64 r.exp) := by simp [R.cells, r.h32]
theorem R.c36 : (r.cells C cap)[36]? = some (.bool r.hold) := by simp [R.cells, r.h32]
theorem R.c37 : (r.cells C cap)[37]? = some (.bool r.gone) := by simp [R.cells, r.h32]
theorem R.c38 : (r.cells C cap)[38]? = some (.slice C r.copies.length cap) := by simp [R.cells, r.h32]
theorem R.g0 (h : 0 < (r.cells C cap).length) : (r.cells C cap)[0]'h = .string (S8 r.id) := Option.some.inj ((List.getElem?_eq_getElem h).symm.trans (r.c0 C cap))
theorem R.g1 (h : 1 < (r.cells C cap).length) : (r.cells C cap)[1]'h = .int .i64 r.len := Option.some.inj ((List.getElem?_eq_getElem h).symm.trans (r.c1 C cap))
theorem R.g34 (h : 34 < (r.cells C cap).length) : (r.cells C cap)[34]'h = .int .i64 r.idx := Option.some.inj ((List.getElem?_eq_getElem h).symm.trans (r.c34 C cap))
theorem R.g35 (h : 35 < (r.cells C cap).length) : (r.cells C cap)[35]'h = .int .i64 r.exp := Option.some.inj ((List.getElem?_eq_getElem h).symm.trans (r.c35 C cap))
theorem R.g36 (h : 36 < (r.cells C cap).length) : (r.cells C cap)[36]'h = .bool r.hold := Option.some.inj ((List.getElem?_eq_getElem h).symm.trans (r.c36 C cap))
theorem R.g37 (h : 37 < (r.cells C cap).length) : (r.cells C cap)[37]'h = .bool r.gone := Option.some.inj ((List.getElem?_eq_getElem h).symm.trans (r.c37 C cap))
theorem R.g38 (h : 38 < (r.cells C cap).length) : (r.cells C cap)[38]'h = .slice C r.copies.length cap := Option.some.inj ((List.getElem?_eq_getElem h).symm.trans (r.c38 C cap))
end
/-- The record's cells in memory. -/
structure RAt (w : World) (g : Nat) (r : R) (C : Option Addr) (cap : Nat) : Prop where
  h0 : w.cell? ⟨g, 0, none⟩ = some (.string (S8 r.id))
  h1 : w.cell? ⟨g, 1, none⟩ = some (.int .i64 r.len)
  h34 : w.cell? ⟨g, 34, none⟩ = some (.int .i64 r.idx)
  h35 : w.cell? ⟨g, 35, none⟩ = some (.int .i64 r.exp)
  h36 : w.cell? ⟨g, 36, none⟩ = some (.bool r.hold)
  h37 : w.cell? ⟨g, 37, none⟩ = some (.bool r.gone)
  h38 : w.cell? ⟨g, 38, none⟩ = some (.slice C r.copies.length cap)
theorem RAt.of_blk {w : World} {g : Nat} {t : TypeId} {r : R} {C : Option Addr} {cap : Nat} (h : Blk w g t (r.cells C cap).toArray) : RAt w g r C cap := by
  constructor <;> rw [h.cell] <;> simp only [List.getElem?_toArray]
  · exact r.c0 C cap
  · exact r.c1 C cap
  · exact r.c34 C cap
  · exact r.c35 C cap
  · exact r.c36 C cap
  · exact r.c37 C cap
  · exact r.c38 C cap
/-- Copies that lie at C. -/
def CAt (w : World) (C : Option Addr) (l : List Cpy) : Prop :=
  ∀ k c, l[k]? = some c → ∃ ad : Addr, C = some ad ∧ w.cell? (ad.add (k * 4)) = some (.int .i64 c.dev) ∧ w.cell? ⟨(ad.add (k * 4)).block, (ad.add (k * 4)).off + 1, none⟩ = some (.int .i64 c.pos) ∧
    w.cell? ⟨(ad.add (k * 4)).block, (ad.add (k * 4)).off + 2, none⟩ = some (.int .i64 c.len) ∧ w.cell? ⟨(ad.add (k * 4)).block, (ad.add (k * 4)).off + 3, none⟩ = some (.bool c.bad)
theorem CAt.below {w w' : World} {C : Option Addr} {l : List Cpy} (h : CAt w C l) (hb : Below w.heap.size w w') : CAt w' C l := fun k c hk => by
  obtain ⟨ad, e, h0, h1, h2, h3⟩ := h k c hk
  exact ⟨ad, e, (hb.cell (cell_lt h0)).trans h0, (hb.cell (cell_lt h1)).trans h1, (hb.cell (cell_lt h2)).trans h2, (hb.cell (cell_lt h3)).trans h3⟩
end Go.Proofs.YtloffgoenaomkaaDoor.Rec
/- The walks of the names of records: each function once. -/
namespace Go.Proofs.YtloffgoenaomkaaDoor.Rec
open Go.RowKit Mem Crc _root_.Go.Proofs.YtloffgoenaomkaaDoor.Frame
attribute [local go_sem] S8_size S8_list S8_at
/-- What holds at the head of a round of 'Name'. -/
def NameRel (w : World) (bs : List UInt8) (i : Value) (wr : World) : Prop :=
  wr = w ∧ ∃ k : Nat, k ≤ bs.length ∧ i = .int .i64 k ∧ ∀ j, j < k → okc (bs.getD j 0) = true
set_option maxHeartbeats 400000 in
theorem name_any (bs : List UInt8) (hl : bs.length ≤ 140737488355328) (w : World) : Calls Tryd.prog 37 #[.string (S8 bs)] w fun e w' => e = .returned (.bool (nameM bs)) ∧ w' = w := by
  go_enter Tryd.func37, Tryd.ntmps37
  go_wp2
  go_loopw [7] (fun i wr => NameRel w bs i wr) (fun i _ => bs.length - (intOf i).toNat)
  case atStart => exact ⟨rfl, 0, Nat.zero_le _, rfl, fun j h => absurd h (by omega)⟩
  case round =>
    obtain ⟨rfl, k, hk, rfl, hj⟩ := hrel
    have HJ := Lib.hid hj
    clear hj
    by_cases hlt : k < bs.length
    · go_wp2
      all_goals first
        | (go_roundw
           case rel =>
             have hfin : okc (bs.getD k 0) = true := by
               have hch : chr bs k = V8 (bs.getD k 0) := rfl
               try simp only [bne_eq_false_iff_eq, bne_iff_ne, ne_eq] at *
               exact decide_eq_true (by omega)
             refine ⟨rfl, k + 1, hlt, by go_num, fun j hj => ?_⟩
             rcases Nat.lt_or_ge j k with h | h
             · exact HJ.out j h
             · obtain rfl : j = k := by omega
               exact hfin
           case measure => simp [intOf]; omega)
        | (go_ret
           have hfin : okc (bs.getD k 0) = false := by
             have hch : chr bs k = V8 (bs.getD k 0) := rfl
             try simp only [bne_iff_ne, ne_eq] at *
             exact decide_eq_false (by omega)
           refine ⟨?_, rfl⟩
           rw [name_bad hlt hfin]
           rfl)
    · obtain rfl : k = bs.length := by omega
      go_wp2
      all_goals
        go_ret
        refine ⟨congrArg (fun b => Ending.returned (Value.bool b)) ?_, rfl⟩
        rw [name_all HJ.out, Bool.eq_iff_iff]
        simp
        omega
set_option maxHeartbeats 400000 in
theorem refName_any (bs : List UInt8) (hl : bs.length ≤ 140737488355328) (w : World) : Calls Tryd.prog 71 #[.string (S8 bs)] w fun e w' => e = .returned (.bool (nameM bs)) ∧ w' = w := by
  have hshort : ¬ (1 ≤ bs.length ∧ bs.length ≤ 16) → nameM bs = false := fun h => by unfold nameM; rw [decide_eq_false h, Bool.false_and]
  have HS := Lib.hid hshort
  clear hshort
  by_cases h1 : 1 ≤ bs.length ∧ bs.length ≤ 16
  · obtain ⟨ha, hb⟩ := h1
    have ha' : ¬ (bs.length : Int) < 1 := by omega
    have hb' : ¬ (16 : Int) < (bs.length : Int) := by omega
    go_enter Tryd.func71, Tryd.ntmps71
    go_wp2
    go_loopw [3] (fun i wr => NameRel w bs i wr) (fun i _ => bs.length - (intOf i).toNat)
    case atStart => exact ⟨rfl, 0, Nat.zero_le _, rfl, fun j h => absurd h (by omega)⟩
    case round =>
      obtain ⟨rfl, k, hk, rfl, hj⟩ := hrel
      have HJ := Lib.hid hj
      clear hj
      by_cases hlt : k < bs.length
      · go_wp2
        all_goals first
          | (go_roundw
             case rel =>
               have hfin : okc (bs.getD k 0) = true := by
                 have hch : chr bs k = V8 (bs.getD k 0) := rfl
                 try simp only [Bool.not_eq_true', Bool.not_eq_false', decide_eq_true_eq, decide_eq_false_iff_not, beq_eq_false_iff_ne, beq_iff_eq, ne_eq] at *
                 exact decide_eq_true (by omega)
               refine ⟨rfl, k + 1, hlt, by go_num, fun j hj => ?_⟩
               rcases Nat.lt_or_ge j k with h | h
               · exact HJ.out j h
               · obtain rfl : j = k := by omega
                 exact hfin
             case measure => simp [intOf]; omega)
          | (go_ret
             have hfin : okc (bs.getD k 0) = false := by
               have hch : chr bs k = V8 (bs.getD k 0) := rfl
               try simp only [Bool.not_eq_true', decide_eq_false_iff_not, beq_eq_false_iff_ne, ne_eq] at *
               exact decide_eq_false (by omega)
             refine ⟨?_, rfl⟩
             rw [name_bad hlt hfin]
             rfl)
      · obtain rfl : k = bs.length := by omega
        go_wp2
        go_ret
        refine ⟨?_, rfl⟩
        rw [name_all HJ.out, decide_eq_true (show 1 ≤ bs.length ∧ bs.length ≤ 16 from ⟨ha, hb⟩)]
        rfl
  · have hf := HS.out h1
    have hcase : bs.length < 1 ∨ ¬ bs.length < 1 ∧ 16 < bs.length := by omega
    clear h1 HS
    have HF := Lib.hid hf
    clear hf
    rcases hcase with h | ⟨h, h'⟩
    all_goals
      go_enter Tryd.func71, Tryd.ntmps71
      go_wp2
      go_ret
      refine ⟨?_, rfl⟩
      rw [HF.out]
      rfl
end Go.Proofs.YtloffgoenaomkaaDoor.Rec
/- Layer 15 (coldvol): what an object on a tape is. -/
namespace Go.Proofs.YtloffgoenaomkaaDoor.Col
open Go Go.RowKit Mem Pl Disk Crc _root_.Go.Proofs.YtloffgoenaomkaaDoor.Frame Hash
/-- How many data blocks. -/
def dataN (n : Nat) : Nat := (n + 55) / 56
theorem blocksZ_nat {n : Nat} (h : n ≤ 512) : blocksZ (n : Int) = 2 + dataN n := by
  unfold blocksZ dataN
  rw [if_neg (by omega), Int.toNat_natCast]
/-- The data blocks, put together. -/
def dataM (T : List (List UInt8)) (at_ n : Nat) : Nat → Nat → List UInt8 → Option (List UInt8)
  | 0, _, b => some b
  | f + 1, i, b => match readM (T.getD (at_ + i) []) (tagM 2 i at_) with
    | some c => dataM T at_ n f (i + 1) (b ++ c.take (min 56 (n - b.length)))
    | none => none
/-- What the object at a block is, told its head. -/
def restM (T : List (List UInt8)) (at_ k n : Nat) (h : List UInt8) : Option (List UInt8 × List UInt8) :=
  if 16 < k ∨ 512 < n ∨ T.length < at_ + (2 + dataN n) then none
  else match dataM T at_ n (dataN n) 1 [] with
    | none => none
    | some b => if (readM (T.getD (at_ + (dataN n + 1)) []) (tagM 3 (dataN n + 1) at_)).isSome ∧ Rec.nameM ((h.drop 3).take k) = true then some ((h.drop 3).take k, b) else none
def objM (T : List (List UInt8)) (at_ : Nat) : Option (List UInt8 × List UInt8) :=
  match readM (T.getD at_ []) (tagM 1 0 at_) with
  | none => none
  | some h => restM T at_ (h.getD 0 0).toNat (be ((h.drop 1).take 2)) h
theorem readM_len {c want b : List UInt8} (h : readM c want = some b) (hc : c.length = 64) : b.length = 56 := by
  unfold readM at h
  split at h
  · injection h with h
    rw [← h, List.length_take, List.length_drop, hc]
    rfl
  · cases h
theorem dataM_len {T : List (List UInt8)} {at_ n : Nat} (hT : ∀ k c want b, T.getD k [] = c → readM c want = some b → b.length = 56) : ∀ (f i : Nat) (b b' : List UInt8), dataM T at_ n f i b = some b' → b.length ≤ n → b'.length = min n (b.length + 56 * f)
  | 0, i, b, b', h, hb => by
    injection h with h
    rw [← h]
    omega
  | f + 1, i, b, b', h, hb => by
    unfold dataM at h
    split at h
    · rename_i c hc
      have h56 := hT _ _ _ _ rfl hc
      have hl : (b ++ c.take (min 56 (n - b.length))).length = min n (b.length + 56) := by rw [List.length_append, List.length_take]; omega
      have := dataM_len hT f (i + 1) _ b' h (by rw [hl]; omega)
      rw [this, hl]
      omega
    · cases h
end Go.Proofs.YtloffgoenaomkaaDoor.Col
/- Strings as bytes: '[]byte(s)', 'append(b, s...)', a load of a whole row, an array's cells as a slice. Over any program. No program's function is walked here. -/
namespace Go.Proofs.YtloffgoenaomkaaDoor.Rec
open Go.RowKit Mem
section
variable {P : Program} {w : World}
theorem strCells_S8 (bs : List UInt8) : Go.Lib.strCells (S8 bs) = bs.map B8 := by
  unfold Go.Lib.strCells
  rw [S8_list]
  rfl
theorem row_S8 (bs : List UInt8) (c k : Nat) (hk : k < bs.length) : (bytesRow (S8 bs) c)[k]? = some (.int .u8 (V8 (bs.getD k 0))) := by
  unfold bytesRow
  rw [Array.getElem?_append_left (by simpa [S8] using hk)]
  simp [S8, V8, List.getD, hk]
theorem wpList_str_bytes {ops : Array Oper} {rest : List Oper} {o : Oper} {a : Act} {Q : Exit → Act → World → Prop} (hgd : o.guard = none) (x : Operand) (ts t e : TypeId)
    (ho : o.op = .convert ts t x) (hs : P.underlying ts = some .string) (T : ByteTy P t e) (bs : List UInt8) (hx : a.eval x = .string (S8 bs)) (g : Nat) (hg : w.heap.size = g)
    (h : ∀ c w', BAt w' (some ⟨g, 0, none⟩) bs → Below g w w' → wpList P ops Q rest (a.put o.dst (.slice (some ⟨g, 0, none⟩) bs.length c)) w') : wpList P ops Q (o :: rest) a w := by
  subst hg
  refine wpList_plain hgd fun K hK => ?_
  have hr := run_bytes_of_string (P := P) w ts t e (S8 bs) hs T.ht T.he
  rw [S8_size] at hr
  unfold Oper.wp execOp
  simp only [ho, hx, hr, Sem.run_bind, Sem.run_pure, Result.andThen_ok]
  refine hK _ _ (h _ _ ?_ ?_)
  · refine BAt.of_block (heap_alloc_new w.drew _) 0 fun k hk => ?_
    rw [Nat.zero_add]
    exact row_S8 bs _ k hk
  · exact ((Below.refl _ _).drew).alloc (Nat.le_refl _) _
theorem wpList_append_str {ops : Array Oper} {rest : List Oper} {o : Oper} {a : Act} {Q : Exit → Act → World → Prop} (hgd : o.guard = none) (s x : Operand) (t ts : TypeId)
    (ho : o.op = .call { callee := .builtin .append, args := #[s, x], argTypes := #[t, ts] }) (hts : P.underlying ts = some .string) (base : Nat) (e : TypeId) (T : ByteTy P t e)
    (A : Option Addr) (n c : Nat) (xs : List UInt8) (hs : a.eval s = .slice A n c) (hown : Own w base e A n c xs)
    (bs : List UInt8) (hx : a.eval x = .string (S8 bs)) (N : Nat) (hN : n + bs.length = N) (hbytes : N ≤ 140737488355328) (hbase : base ≤ w.heap.size)
    (h : ∀ A' c' w', Own w' base e A' N c' (xs ++ bs) → w.grownBy w' (Value.slice A n c).ownBlock → Below base w w' → wpList P ops Q rest (a.put o.dst (.slice A' N c')) w') : wpList P ops Q (o :: rest) a w := by
  subst hN
  refine wpList_plain hgd fun K hK => ?_
  obtain ⟨i, hi, hz, hsz, hby⟩ := T.info
  obtain ⟨v', w', hrun, h2, h3, _⟩ := Go.Lib.run_append_own_string (P := P) (w := w) base t ts o.type e i T.ht hts hi hz hsz hby (.slice A n c) n (xs.map B8) hown (S8 bs)
    (by rw [S8_size]; unfold maxLen; omega) (by rw [S8_size]; exact hbytes) hbase
  rw [S8_size] at h2
  have hA : ∃ A' c', v' = .slice A' (n + bs.length) c' := by
    rcases h2.2 with ⟨h, h0⟩ | ⟨g, cap, cur, h, _⟩
    · exact ⟨none, 0, by rw [h, h0]⟩
    · exact ⟨_, _, h⟩
  obtain ⟨A', c', rfl⟩ := hA
  have hO : Own w' base e A' (n + bs.length) c' (xs ++ bs) := by unfold Own; rw [List.map_append, ← strCells_S8]; exact h2
  unfold Oper.wp execOp
  simp only [ho, resolve, invoke, builtin, Sem.run_bind, Sem.run_pure, Result.andThen_ok, List.map_toArray, List.map_cons, List.map_nil, hs, hx, hrun]
  exact hK _ _ (h _ _ _ hO h3 (World_grown_below h3 hbase hown.row_ge))
/-- 'row[:]' of an array of N bytes in memory. -/
theorem run_cutAll (t e : TypeId) (N : Nat) (ht : P.underlying t = some (.array N e)) (he : (P.info? e).map (fun i => (i.zero, i.size, i.bytes)) = some (some (.int .u8 0), 1, 1)) (g o : Nat) (_hN : 0 < N) (W : World) :
    (Instr.sliceAt t (.pointer (some ⟨g, o, none⟩)) none none none).run P W = .ok (.slice (some ⟨g, o, none⟩) N N) W := by
  obtain ⟨i, hi, hz, hs, hby⟩ := info_parts he
  simp [Instr.sliceAt, Instr.sureAddr, run_underlying ht, Instr.sliceBounds, sizeOf, typeInfo, hi, add_off]
end
end Go.Proofs.YtloffgoenaomkaaDoor.Rec
