/- The plain law of 'PlantOff': while the power is off nothing is done. No program. -/
import Derived.Test.YtomncfiklkhfjaaPlOk
namespace Go.Proofs.Ytomncfiklkhfjaa.Pl.Off
open Go Go.RowKit Mem
def d0 : Dev := ⟨false, 8, List.replicate 8 zeros⟩
def d1 : Dev := ⟨true, 8, []⟩
/-- A plant with a disk and a tape of eight. -/
def OM (ws : List Wr) (off : Bool) (fu : Option Nat) (s : Nat) : PM := { disks := [8], tapes := [8], devs := [d0, d1], waits := ws, off := off, fuse := fu, steps := s, now := 0 }
theorem OM_new : newM [8] [8] = some (OM [] false none 0) := by kernel_rfl
theorem OM_fuse (ws : List Wr) (fu : Option Nat) (s f : Nat) : (OM ws false fu s).setFuse (f : Int) = OM ws false (some f) s := by
  unfold PM.setFuse
  show (if false = true then _ else _) = _
  rw [if_neg (by simp)]
  show ({ OM ws false fu s with fuse := if (f : Int) < 0 then none else some (f : Int).toNat } : PM) = _
  rw [if_neg (by omega)]
  rfl
theorem OM_fuse_off (ws : List Wr) (fu : Option Nat) (s : Nat) (n : Int) : (OM ws true fu s).setFuse n = OM ws true fu s := by
  unfold PM.setFuse
  exact if_pos rfl
/-- The state with a fuse of f, so many steps done. -/
def At (f done : Nat) (p : PM) : Prop := ∃ ws, (p = OM ws false (some (f - done)) done ∧ done ≤ f) ∨ (p = OM ws true none done ∧ done = f)
theorem OM_give (ws : List Wr) (f done j k : Nat) (b : List UInt8) (h : done ≤ f) :
    (OM ws false (some (f - done)) done).give j k b = if done < f then (OM (ws ++ [⟨j, k, b⟩]) false (some (f - (done + 1))) (done + 1), 0) else (OM ws true none done, 2) := by
  unfold PM.give
  by_cases hlt : done < f
  · rw [if_pos hlt]
    have e : f - done = (f - (done + 1)) + 1 := by omega
    rw [e]
    rfl
  · rw [if_neg hlt]
    have e : f - done = 0 := by omega
    rw [e]
    rfl
theorem OM_write_on (ws : List Wr) (f done k : Nat) (b : List UInt8) (h : done ≤ f) (hk : k < 8) (hb : b.length = 64) :
    (OM ws false (some (f - done)) done).write 0 (k : Int) b = if done < f then (OM (ws ++ [⟨0, k, b⟩]) false (some (f - (done + 1))) (done + 1), 0) else (OM ws true none done, 2) := by
  have hnum : (OM ws false (some (f - done)) done).num 0 = some 0 := by unfold PM.num; rfl
  unfold PM.write
  rw [hnum]
  show (if false = true then _ else if d0.tape = true ∨ ¬ (0 ≤ (k : Int) ∧ (k : Int) < (d0.most : Int)) then _ else if b.length ≠ 64 then _ else (OM ws false (some (f - done)) done).give 0 (k : Int).toNat b) = _
  have h8 : (d0.most : Int) = 8 := rfl
  rw [if_neg (by simp), if_neg (by rw [h8]; simp [d0]; omega), if_neg (by simp [hb])]
  exact OM_give ws f done 0 k b h
theorem OM_write_off (ws : List Wr) (fu : Option Nat) (s : Nat) (i k : Int) (b : List UInt8) : (OM ws true fu s).write i k b = (OM ws true fu s, 2) := if_pos rfl
theorem OM_append_off (ws : List Wr) (fu : Option Nat) (s : Nat) (i : Int) (b : List UInt8) : (OM ws true fu s).append i b = (OM ws true fu s, 0, 2) := if_pos rfl
theorem OM_read_off (ws : List Wr) (fu : Option Nat) (s : Nat) (i k : Int) : (OM ws true fu s).read i k = (none, 2) := if_pos rfl
theorem OM_flush_off (ws : List Wr) (fu : Option Nat) (s : Nat) (i : Int) : (OM ws true fu s).flush i = (OM ws true fu s, 2) := if_pos rfl
theorem OM_append_on (ws : List Wr) (f done : Nat) (b : List UInt8) (h : done ≤ f) (hb : b.length = 64) :
    ((OM ws false (some (f - done)) done).append 1 b).2.2 = 3 ∧ ((OM ws false (some (f - done)) done).append 1 b).1 = OM ws false (some (f - done)) done ∨
    (done < f ∧ ((OM ws false (some (f - done)) done).append 1 b).2.2 = 0 ∧ ∃ ws', ((OM ws false (some (f - done)) done).append 1 b).1 = OM ws' false (some (f - (done + 1))) (done + 1)) ∨
    (done = f ∧ ((OM ws false (some (f - done)) done).append 1 b).2.2 = 2 ∧ ((OM ws false (some (f - done)) done).append 1 b).1 = OM ws true none done) := by
  have hnum : (OM ws false (some (f - done)) done).num 1 = some 1 := by unfold PM.num; rfl
  have e : (OM ws false (some (f - done)) done).append 1 b = if d1.size ws 1 = 8 then (OM ws false (some (f - done)) done, 0, 3) else
      if ((OM ws false (some (f - done)) done).give 1 (d1.size ws 1) b).2 = 0 then (((OM ws false (some (f - done)) done).give 1 (d1.size ws 1) b).1, ((d1.size ws 1 : Nat) : Int), 0) else (((OM ws false (some (f - done)) done).give 1 (d1.size ws 1) b).1, 0, 2) := by
    unfold PM.append
    rw [hnum]
    show (if false = true then _ else if (true = false) then _ else if b.length ≠ 64 then _ else _) = _
    rw [if_neg (by simp), if_neg (by simp), if_neg (by simp [hb])]
    rfl
  rw [e]
  by_cases h8 : d1.size ws 1 = 8
  · rw [if_pos h8]
    exact .inl ⟨rfl, rfl⟩
  · rw [if_neg h8, OM_give ws f done 1 _ b h]
    by_cases hlt : done < f
    · simp only [if_pos hlt, if_true]
      exact .inr (.inl ⟨hlt, by first | rfl | trivial, _, rfl⟩)
    · simp only [if_neg hlt]
      exact .inr (.inr ⟨by omega, rfl, rfl⟩)
/-- The last flush finds the fuse at its end. -/
theorem OM_flush_on (ws : List Wr) (s : Nat) : (OM ws false (some 0) s).flush 0 = (OM ws true none s, 2) := by
  have hnum : (OM ws false (some 0) s).num 0 = some 0 := by unfold PM.num; rfl
  unfold PM.flush
  rw [hnum]
  rfl
theorem boot1_ended (p : PM) : ∀ q, q ≤ p.waits.length → (p.bootAt [1] q).2 = []
  | 0, _ => rfl
  | q + 1, h => by
    have hx : p.waits[q]? = some p.waits[q] := List.getElem?_eq_getElem (by omega)
    rw [PM.bootAt_next hx]
    have ih := boot1_ended p q (by omega)
    generalize p.bootAt [1] q = s at ih
    obtain ⟨s1, s2⟩ := s
    simp only at ih
    subst ih
    have hk : keepAt [1] q = 1 := by unfold keepAt; simp [Nat.mod_one]
    unfold bootStep
    simp only [List.contains_nil, Bool.false_eq_true, if_false, hk]
    rw [if_pos (by decide)]
/-- Behind a boot that keeps all, the tape is as long as it was. -/
theorem OM_len_boot (ws : List Wr) (off : Bool) (fu : Option Nat) (s : Nat) (hok : (OM ws off fu s).Ok) : ((OM ws off fu s).boot [1]).len 1 = (OM ws off fu s).len 1 := by
  have hi := hok.bootInv [1] ws.length (Nat.le_refl _)
  obtain ⟨d', h1, h2, _, _, h5, _⟩ := hi.dev 1 d1 rfl
  have he := boot1_ended (OM ws off fu s) ws.length (Nat.le_refl _)
  have hl := h5 rfl (by rw [he]; rfl)
  have hlen : ((OM ws off fu s).bootAt [1] ws.length).1.length = 2 := hi.len
  rw [PM.boot_eq]
  have e1 : (OM ws off fu s).len 1 = (((0 + cnt ws 1 : Nat) : Int), 0) := by
    have hnum : (OM ws off fu s).num 1 = some 1 := by unfold PM.num; rfl
    unfold PM.len
    rw [hnum]
    rfl
  rw [e1]
  unfold PM.len PM.num
  show (match (if 0 ≤ (1 : Int) ∧ (1 : Int) < (((OM ws off fu s).bootAt [1] ws.length).1.length : Int) then some (1 : Int).toNat else none) with | none => ((0 : Int), (31 : Int)) | some j => match ((OM ws off fu s).bootAt [1] ws.length).1[j]? with | none => (0, 31) | some d => ((d.size [] j : Nat), 0)) = _
  rw [hlen, if_pos (by decide)]
  show (match ((OM ws off fu s).bootAt [1] ws.length).1[1]? with | none => ((0 : Int), (31 : Int)) | some d => ((d.size [] 1 : Nat), 0)) = _
  have h1' : ((OM ws off fu s).bootAt [1] ws.length).1[1]? = some d' := h1
  rw [h1']
  have ht : d'.tape = true := h2
  show (((d'.size [] 1 : Nat) : Int), (0 : Int)) = _
  unfold Dev.size
  rw [if_pos ht, hl]
  show (((d1.has.length + cnt (ws.take ws.length) 1 + cnt [] 1 : Nat) : Int), (0 : Int)) = _
  rw [List.take_length]
  simp [d1, cnt]
end Go.Proofs.Ytomncfiklkhfjaa.Pl.Off
