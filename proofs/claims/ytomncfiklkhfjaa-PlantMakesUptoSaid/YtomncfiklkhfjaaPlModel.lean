/- A plant in plain terms: devices, what waits, power, clock. No program. -/
import Derived.Test.YtomncfiklkhfjaaMem
namespace Go.Proofs.Ytomncfiklkhfjaa.Pl
open Go Go.RowKit Mem
def zeros : List UInt8 := List.replicate 64 0
theorem zeros_len : zeros.length = 64 := by simp [zeros]
/-- A write that waits. -/
structure Wr where
  dev : Nat
  place : Nat
  b : List UInt8
/-- A disk or a tape, and what it has for good. -/
structure Dev where
  tape : Bool
  most : Nat
  has : List (List UInt8)
structure PM where
  disks : List Nat
  tapes : List Nat
  devs : List Dev
  waits : List Wr
  off : Bool
  fuse : Option Nat
  steps : Nat
  now : Nat
def PM.fuseI (p : PM) : Int := match p.fuse with
  | none => -1
  | some n => (n : Int)
/-- How many writes wait for a device. -/
def cnt (ws : List Wr) (i : Nat) : Nat := ws.countP fun x => x.dev == i
def Dev.size (d : Dev) (ws : List Wr) (i : Nat) : Nat := if d.tape then d.has.length + cnt ws i else d.most
/-- What is read at a place. -/
def lastW (ws : List Wr) (i k : Nat) (b : List UInt8) : List UInt8 := ws.foldl (fun b x => if x.dev = i ∧ x.place = k then x.b else b) b
def Dev.at_ (d : Dev) (k : Nat) : List UInt8 := d.has.getD k zeros
/-- A device's number, if it is one. -/
def PM.num (p : PM) (i : Int) : Option Nat := if 0 ≤ i ∧ i < p.devs.length then some i.toNat else none
def PM.len (p : PM) (i : Int) : Int × Int := match p.num i with
  | none => (0, 31)
  | some j => match p.devs[j]? with
    | none => (0, 31)
    | some d => (d.size p.waits j, 0)
def PM.read (p : PM) (i k : Int) : Option (List UInt8) × Int :=
  if p.off then (none, 2) else match p.num i with
  | none => (none, 31)
  | some j => match p.devs[j]? with
    | none => (none, 31)
    | some d => if 0 ≤ k ∧ k < d.size p.waits j then (some (lastW p.waits j k.toNat (d.at_ k.toNat)), 0) else (none, 31)
def PM.step (p : PM) : PM × Bool := match p.fuse with
  | some 0 => ({ p with off := true, fuse := none }, false)
  | some (n + 1) => ({ p with fuse := some n, steps := p.steps + 1 }, true)
  | none => ({ p with steps := p.steps + 1 }, true)
def PM.give (p : PM) (i k : Nat) (b : List UInt8) : PM × Int :=
  if p.step.2 then ({ p.step.1 with waits := p.step.1.waits ++ [⟨i, k, b⟩] }, 0) else (p.step.1, 2)
def PM.write (p : PM) (i k : Int) (b : List UInt8) : PM × Int :=
  if p.off then (p, 2) else match p.num i with
  | none => (p, 31)
  | some j => match p.devs[j]? with
    | none => (p, 31)
    | some d => if d.tape = true ∨ ¬ (0 ≤ k ∧ k < d.most) then (p, 31) else if b.length ≠ 64 then (p, 32) else p.give j k.toNat b
def PM.append (p : PM) (i : Int) (b : List UInt8) : PM × Int × Int :=
  if p.off then (p, 0, 2) else match p.num i with
  | none => (p, 0, 31)
  | some j => match p.devs[j]? with
    | none => (p, 0, 31)
    | some d => if d.tape = false then (p, 0, 31) else if b.length ≠ 64 then (p, 0, 32) else if d.size p.waits j = d.most then (p, 0, 3) else
      if (p.give j (d.size p.waits j) b).2 = 0 then ((p.give j (d.size p.waits j) b).1, (d.size p.waits j : Int), 0) else ((p.give j (d.size p.waits j) b).1, 0, 2)
/-- A write lasts. -/
def Dev.settle (d : Dev) (k : Nat) (b : List UInt8) : Dev := if d.tape then { d with has := d.has ++ [b] } else { d with has := d.has.set k b }
def settle (ds : List Dev) (x : Wr) : List Dev := ds.modify x.dev fun d => d.settle x.place x.b
def PM.flush (p : PM) (i : Int) : PM × Int :=
  if p.off then (p, 2) else match p.num i with
  | none => (p, 31)
  | some j => if p.step.2 then ({ p.step.1 with devs := (p.waits.filter fun x => x.dev == j).foldl settle p.devs, waits := p.waits.filter fun x => !(x.dev == j) }, 0) else (p.step.1, 2)
def PM.setFuse (p : PM) (n : Int) : PM := if p.off then p else { p with fuse := if n < 0 then none else some n.toNat }
def keepAt (keep : List Int) (i : Nat) : Int := if keep.length = 0 then 0 else keep.getD (i % keep.length) 0
/-- A torn sector: its last half is noughts. -/
def torn (b : List UInt8) : List UInt8 := b.take 32 ++ List.replicate 32 0
/-- A boot's round: what of a write lasts; 'ended': of which tapes no more. -/
def bootStep (keep : List Int) (s : List Dev × List Nat) (i : Nat) (x : Wr) : List Dev × List Nat :=
  if s.2.contains x.dev then s else
  let tape := (s.1[x.dev]?).any (·.tape)
  let k := keepAt keep i
  if k % 2 ≠ 0 then (settle s.1 x, s.2)
  else if tape then (if k % 4 = 2 then settle s.1 { x with b := torn x.b } else s.1, s.2 ++ [x.dev])
  else s
def bootGo (keep : List Int) : Nat → List Wr → List Dev × List Nat → List Dev × List Nat
  | _, [], s => s
  | i, x :: ws, s => bootGo keep (i + 1) ws (bootStep keep s i x)
def PM.boot (p : PM) (keep : List Int) : PM :=
  { p with devs := (bootGo keep 0 p.waits (p.devs, [])).1, waits := [], off := false, fuse := none }
def PM.rot (p : PM) (i k at_ : Int) (x : UInt8) : PM × Bool := match p.num i with
  | none => (p, false)
  | some j => match p.devs[j]? with
    | none => (p, false)
    | some d => if 0 ≤ k ∧ 0 ≤ at_ ∧ at_ < 64 ∧ k < d.has.length then
        ({ p with devs := p.devs.set j { d with has := d.has.set k.toNat ((d.at_ k.toNat).set at_.toNat (((d.at_ k.toNat).getD at_.toNat 0) ^^^ x)) } }, true) else (p, false)
def PM.tick (p : PM) (n : Int) : PM := if 0 < n then { p with now := p.now + min n.toNat (1099511627776 - p.now) } else p
/-- A new plant. -/
def newDevs (disks tapes : List Nat) : List Dev := disks.map (fun n => ⟨false, n, List.replicate n zeros⟩) ++ tapes.map fun n => ⟨true, n, []⟩
def newM (disks tapes : List Int) : Option PM :=
  if disks.length + tapes.length = 0 ∨ 12 < disks.length + tapes.length ∨ (disks ++ tapes).any (fun n => n < 1 || 4096 < n) then none
  else some { disks := disks.map Int.toNat, tapes := tapes.map Int.toNat, devs := newDevs (disks.map Int.toNat) (tapes.map Int.toNat), waits := [], off := false, fuse := none, steps := 0, now := 0 }
/-- What is so of every plant. -/
structure PM.Ok (p : PM) : Prop where
  n1 : 1 ≤ p.devs.length
  n12 : p.devs.length ≤ 12
  shape : p.devs.length = p.disks.length + p.tapes.length
  tape : ∀ (i : Nat) (d : Dev), p.devs[i]? = some d → d.tape = decide (p.disks.length ≤ i)
  most : ∀ (i : Nat) (d : Dev), p.devs[i]? = some d → (p.disks ++ p.tapes)[i]? = some d.most ∧ 1 ≤ d.most ∧ d.most ≤ 4096
  disk : ∀ (i : Nat) (d : Dev), p.devs[i]? = some d → d.tape = false → d.has.length = d.most
  room : ∀ (i : Nat) (d : Dev), p.devs[i]? = some d → d.tape = true → d.has.length + cnt p.waits i ≤ d.most
  sec : ∀ (i : Nat) (d : Dev) b, p.devs[i]? = some d → b ∈ d.has → b.length = 64
  wdev : ∀ x ∈ p.waits, x.dev < p.devs.length
  wlen : ∀ x ∈ p.waits, x.b.length = 64
  wplace : ∀ x ∈ p.waits, ∀ d, p.devs[x.dev]? = some d → x.place < d.most
  wtape : ∀ (i : Nat) (d : Dev), p.devs[i]? = some d → d.tape = true → (p.waits.filter fun x => x.dev == i).map (·.place) = List.range' d.has.length (cnt p.waits i)
  now : p.now ≤ 1099511627776
  fuse : p.fuseI < 9223372036854775808
theorem PM.num_some {p : PM} {i : Int} {j : Nat} (h : p.num i = some j) : i = (j : Int) ∧ j < p.devs.length := by
  unfold PM.num at h
  split at h
  · injection h with h
    omega
  · cases h
theorem PM.num_none {p : PM} {i : Int} (h : p.num i = none) : i < 0 ∨ (p.devs.length : Int) ≤ i := by
  unfold PM.num at h
  split at h
  · cases h
  · omega
theorem PM.num_nat {p : PM} {j : Nat} (h : j < p.devs.length) : p.num j = some j := by
  unfold PM.num
  rw [if_pos (by omega)]
  simp
theorem PM.Ok.at_len {p : PM} (h : p.Ok) {i : Nat} {d : Dev} (hd : p.devs[i]? = some d) (k : Nat) : (d.at_ k).length = 64 := by
  unfold Dev.at_
  rw [List.getD_eq_getElem?_getD]
  cases hk : d.has[k]? with
  | none => exact zeros_len
  | some b => exact h.sec i d b hd (List.mem_of_getElem? hk)
theorem lastW_len {i k : Nat} : ∀ (ws : List Wr) (b : List UInt8), (∀ x ∈ ws, x.b.length = 64) → b.length = 64 → (lastW ws i k b).length = 64
  | [], b, _, hb => hb
  | x :: ws, b, h, hb => by
    unfold lastW
    rw [List.foldl_cons]
    refine lastW_len ws _ (fun y hy => h y (by simp [hy])) ?_
    split
    · exact h x (by simp)
    · exact hb
theorem lastW_snoc (ws : List Wr) (x : Wr) (i k : Nat) (b : List UInt8) : lastW (ws ++ [x]) i k b = if x.dev = i ∧ x.place = k then x.b else lastW ws i k b := by
  unfold lastW
  rw [List.foldl_append]
  rfl
theorem cnt_snoc (ws : List Wr) (x : Wr) (i : Nat) : cnt (ws ++ [x]) i = cnt ws i + if x.dev = i then 1 else 0 := by
  unfold cnt
  rw [List.countP_append, List.countP_singleton]
  simp
theorem Dev.size_le {p : PM} (h : p.Ok) {i : Nat} {d : Dev} (hd : p.devs[i]? = some d) : d.size p.waits i ≤ d.most := by
  unfold Dev.size
  split
  · rename_i ht
    exact h.room i d hd ht
  · exact Nat.le_refl _
end Go.Proofs.Ytomncfiklkhfjaa.Pl
