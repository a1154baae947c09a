/- Layer 15 (coldvol): Seal. -/
import Derived.Test.YtloffgoenaomkaaDoorColE
import Derived.Test.YtloffgoenaomkaaDoorFold26
import Derived.Test.YtloffgoenaomkaaDoorCol10
namespace Go.Proofs.YtloffgoenaomkaaDoor.Col
open Go Go.RowKit Mem Pl Disk Crc _root_.Go.Proofs.YtloffgoenaomkaaDoor.Frame Hash Sha
/-- Leaves, one behind the other. -/
def addAll : List (List UInt8) → Nat → List (List UInt8) → List (List UInt8)
  | [], _, ps => ps
  | l :: ls, n, ps => addAll ls (n + 1) (addGo n ps l)
theorem addAll_snoc : ∀ (ls : List (List UInt8)) (n : Nat) (ps : List (List UInt8)) (l : List UInt8), addAll (ls ++ [l]) n ps = addGo (n + ls.length) (addAll ls n ps) l
  | [], _, _, _ => rfl
  | x :: ls, n, ps, l => by
    rw [List.cons_append]
    show addAll (ls ++ [l]) (n + 1) (addGo n ps x) = addGo (n + (ls.length + 1)) (addAll ls (n + 1) (addGo n ps x)) l
    rw [addAll_snoc ls, show n + 1 + ls.length = n + (ls.length + 1) by omega]
/-- The leaves of objects; the root of all that can be read of a tape. -/
def leavesM (l : List (Nat × List UInt8 × List UInt8)) : List (List UInt8) := l.map fun x => leafM (x.2.1 ++ x.2.2)
def rootOf (l : List (Nat × List UInt8 × List UInt8)) : List UInt8 := topM (addAll (leavesM l) 0 [])
/-- What Seal's own variable keeps. -/
def SealI (g gv : Nat) (pre : List (Nat × List UInt8 × List UInt8)) (w : World) : Prop :=
  GrowB w (fun x => g ≤ x ∧ x < w.heap.size ∧ x ≠ gv) g pre.length (addAll (leavesM pre) 0 []) ∧ Blk w gv 101 #[.pointer (some ⟨g, 0, none⟩)] ∧ Ktab w
theorem SealI.below {g gv : Nat} {pre : List (Nat × List UInt8 × List UInt8)} {w w' : World} (h : SealI g gv pre w) (hk : 1 < w.heap.size) (hb : Below w.heap.size w w') : SealI g gv pre w' :=
  ⟨(h.1.below hb).mono fun _x _ hx => ⟨hx.1, Nat.lt_of_lt_of_le hx.2.1 hb.size, hx.2.2⟩, h.2.1.below_ hb, h.2.2.below hb hk⟩
theorem seal_see (w0 : World) (g gv dev : Nat) (hg : w0.heap.size ≤ g) (hgk : 1 < w0.heap.size) (w1 w2 : World) (pre : List (Nat × List UInt8 × List UInt8)) (at_ : Nat) (id b : List UInt8) (A : Option Addr) (m cap : Nat)
    (hi : SealI g gv pre w1) (_ : Below w0.heap.size w0 w1) (hb : Below w1.heap.size w1 w2) (hid : id.length ≤ 16) (hbat : BAt w2 A b) (hm : b.length = m) (hm5 : m ≤ 512) (hnil : A = none → cap = 0) (hpl : pre.length ≤ 4096) :
    Calls Tryd.prog 46 #[.agg (pcV dev at_ ((2 + dataN m : Nat) : Int)).toArray, .string (Rec.S8 id), .slice A m cap, .pointer (some ⟨gv, 0, none⟩)] w2 fun e w' =>
      e = .returned (.tuple #[]) ∧ SealI g gv (pre ++ [(at_, id, b)]) w' ∧ Mods w2.heap.size (fun x => w0.heap.size ≤ x ∧ x < w1.heap.size) w2 w' := by
  have hgl1 : g < w1.heap.size := by obtain ⟨v, hk, _⟩ := hi.1; exact hk.lt
  have hkl : 1 < w1.heap.size := by omega
  have hblk2 := hi.2.1.below_ hb
  have hkt2 := hi.2.2.below hb hkl
  refine (seal1_any w2 (fun x => g ≤ x ∧ x < w1.heap.size ∧ x ≠ gv) gv g pre.length (addAll (leavesM pre) 0 []) dev at_ ((2 + dataN m : Nat) : Int) false id hid A m cap b hbat hm hm5 hnil hblk2 (fun x h => h.1) (fun h => h.2.2 rfl) (hi.1.below hb) (by omega) hkt2 (by omega)).mono ?_
  rintro e w' ⟨rfl, hg', hmo⟩
  have hgvl : gv < w2.heap.size := hblk2.lt
  have hgg : g ≠ gv := fun e => by
    obtain ⟨v, hk, _⟩ := hi.1
    rw [e] at hk
    exact (Blk.ne_ hk hi.2.1 (by decide)) rfl
  have hset : ∀ x, Gset (fun x => g ≤ x ∧ x < w1.heap.size ∧ x ≠ gv) g x → w0.heap.size ≤ x ∧ x < w1.heap.size := fun x hx => by
    rcases hx with h1 | h1
    · rw [h1]; exact ⟨hg, hgl1⟩
    · exact ⟨Nat.le_trans hg h1.1, h1.2.1⟩
  refine ⟨rfl, ⟨?_, hblk2.mods hmo hgvl (fun hx => ?_), ?_⟩, hmo.mono (Nat.le_refl _) fun x _ hx => hset x hx⟩
  · have e1 : leavesM (pre ++ [(at_, id, b)]) = leavesM pre ++ [leafM (id ++ b)] := by simp [leavesM]
    rw [e1, addAll_snoc, List.length_append]
    have e2 : (leavesM pre).length = pre.length := by simp [leavesM]
    rw [e2, Nat.zero_add]
    refine hg'.mono fun x hx hF => ?_
    have hs1 := hb.size
    have hs2 := hmo.size
    rcases hF with h1 | h1
    · exact ⟨h1.1, hx, h1.2.2⟩
    · exact ⟨by omega, hx, by omega⟩
  · rcases hx with h1 | h1
    · exact hgg h1.symm
    · exact h1.2.2 rfl
  · have hs1 := hb.size
    exact hkt2.below ((hmo.mono (B' := w0.heap.size) (by omega) (G := fun _ => False) fun x hx hG => by have := (hset x hG).1; omega).below fun _ _ h => h) hgk
theorem callFunc_seal1 (args : Array Value) (w : World) : (callFunc 46 args).run Tryd.prog w = .ok (.enter 46 args) w := by kernel_rfl
end Go.Proofs.YtloffgoenaomkaaDoor.Col
