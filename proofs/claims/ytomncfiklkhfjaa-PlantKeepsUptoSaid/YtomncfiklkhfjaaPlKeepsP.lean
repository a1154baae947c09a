/- The plain law of 'PlantKeeps': what was flushed stays, whatever a boot keeps of the rest. No program. -/
import Derived.Test.YtomncfiklkhfjaaPlLaw
namespace Go.Proofs.Ytomncfiklkhfjaa.Pl.Keeps
open Go Go.RowKit Mem
/-- A plant with one disk of sixteen sectors. -/
def KM (H : List (List UInt8)) (ws : List Wr) (s : Nat) : PM := { disks := [16], tapes := [], devs := [⟨false, 16, H⟩], waits := ws, off := false, fuse := none, steps := s, now := 0 }
theorem KM_new : newM [16] [] = some (KM (List.replicate 16 zeros) [] 0) := by kernel_rfl
theorem V8_eq {x y : UInt8} : (V8 x = V8 y) ↔ x = y := by
  unfold V8
  constructor
  · intro h
    exact UInt8.toNat_inj.1 (by omega)
  · rintro rfl
    rfl
theorem KM_write (H : List (List UInt8)) (ws : List Wr) (s k : Nat) (b : List UInt8) (hk : k < 16) (hb : b.length = 64) :
    (KM H ws s).write 0 (k : Int) b = (KM H (ws ++ [⟨0, k, b⟩]) (s + 1), 0) := by
  have hnum : (KM H ws s).num 0 = some 0 := by unfold PM.num; rfl
  have hstep : (KM H ws s).step = ({ KM H ws s with steps := s + 1 }, true) := rfl
  unfold PM.write
  rw [hnum]
  show (if false = true then _ else if false = true ∨ ¬ (0 ≤ (k : Int) ∧ (k : Int) < ((16 : Nat) : Int)) then _ else if b.length ≠ 64 then _ else (KM H ws s).give 0 (k : Int).toNat b) = _
  rw [if_neg (by simp), if_neg (by simp; omega), if_neg (by simp [hb])]
  unfold PM.give
  rw [hstep]
  rfl
theorem settle_KM (H : List (List UInt8)) (x : Wr) (hx : x.dev = 0) : settle [⟨false, 16, H⟩] x = [⟨false, 16, H.set x.place x.b⟩] := by
  unfold settle
  rw [hx]
  rfl
def setAll (ws : List Wr) (H : List (List UInt8)) : List (List UInt8) := ws.foldl (fun l x => l.set x.place x.b) H
theorem fold_KM : ∀ (ws : List Wr) (H : List (List UInt8)), (∀ x ∈ ws, x.dev = 0) → ws.foldl settle [⟨false, 16, H⟩] = [⟨false, 16, setAll ws H⟩]
  | [], H, _ => rfl
  | x :: ws, H, h => by
    rw [List.foldl_cons, settle_KM H x (h x (by simp)), fold_KM ws _ (fun y hy => h y (by simp [hy]))]
    rfl
/-- What the first loop writes. -/
def ws1 (bs : List UInt8) (i : Nat) : List Wr := (List.range i).map fun j => ⟨0, j % 16, fullB (bs.getD j 0)⟩
/-- The first byte of each sector behind it. -/
def old (bs : List UInt8) (i : Nat) : List UInt8 := (List.range i).foldl (fun l j => l.set (j % 16) (bs.getD j 0)) (List.replicate 16 0)
/-- What the third loop writes. -/
def ws2 (ts : List UInt8) (i : Nat) : List Wr := (List.range i).map fun j => ⟨0, (3 * j) % 16, fullB (ts.getD j 0)⟩
theorem ws1_next (bs : List UInt8) (i : Nat) : ws1 bs i ++ [⟨0, i % 16, fullB (bs.getD i 0)⟩] = ws1 bs (i + 1) := by
  unfold ws1
  rw [List.range_succ]
  simp
theorem ws2_next (ts : List UInt8) (i : Nat) : ws2 ts i ++ [⟨0, (3 * i) % 16, fullB (ts.getD i 0)⟩] = ws2 ts (i + 1) := by
  unfold ws2
  rw [List.range_succ]
  simp
theorem old_next (bs : List UInt8) (i : Nat) : old bs (i + 1) = (old bs i).set (i % 16) (bs.getD i 0) := by
  unfold old
  rw [List.range_succ, List.foldl_append]
  rfl
theorem old_len (bs : List UInt8) : ∀ i, (old bs i).length = 16
  | 0 => rfl
  | i + 1 => by rw [old_next, List.length_set, old_len bs i]
theorem fold_old (bs : List UInt8) : ∀ i, setAll (ws1 bs i) (List.replicate 16 zeros) = (old bs i).map fullB
  | 0 => by kernel_rfl
  | i + 1 => by
    rw [← ws1_next, old_next, List.map_set, ← fold_old bs i]
    unfold setAll
    rw [List.foldl_append]
    rfl
theorem ws1_dev (bs : List UInt8) (i : Nat) : ∀ x ∈ ws1 bs i, x.dev = 0 := fun x hx => by
  obtain ⟨j, _, rfl⟩ := List.mem_map.1 hx
  rfl
theorem KM_flush (bs : List UInt8) (n s : Nat) : (KM (List.replicate 16 zeros) (ws1 bs n) s).flush 0 = (KM ((old bs n).map fullB) [] (s + 1), 0) := by
  have hstep : (KM (List.replicate 16 zeros) (ws1 bs n) s).step = ({ KM (List.replicate 16 zeros) (ws1 bs n) s with steps := s + 1 }, true) := rfl
  have hnum : (KM (List.replicate 16 zeros) (ws1 bs n) s).num 0 = some 0 := by unfold PM.num; rfl
  unfold PM.flush
  rw [hnum, hstep]
  show (({ KM (List.replicate 16 zeros) (ws1 bs n) s with steps := s + 1, devs := ((ws1 bs n).filter fun x => x.dev == 0).foldl settle [⟨false, 16, List.replicate 16 zeros⟩], waits := (ws1 bs n).filter fun x => !(x.dev == 0) } : PM), (0 : Int)) = _
  have h1 : (ws1 bs n).filter (fun x => x.dev == 0) = ws1 bs n := List.filter_eq_self.2 fun x hx => by simpa using ws1_dev bs n x hx
  have h2 : (ws1 bs n).filter (fun x => !(x.dev == 0)) = [] := List.filter_eq_nil_iff.2 fun x hx => by simpa using ws1_dev bs n x hx
  rw [h1, h2, fold_KM _ _ (ws1_dev bs n), fold_old]
  rfl
/-- Whether a sector may have this byte: the old one, or that of a later write (of the first i). -/
def mayB (o : UInt8) (ts : List UInt8) (k : Nat) (x : UInt8) : Nat → Bool
  | 0 => x == o
  | i + 1 => mayB o ts k x i || ((3 * i) % 16 == k && x == ts.getD i 0)
theorem mayB_mono {o : UInt8} {ts : List UInt8} {k : Nat} {x : UInt8} {i : Nat} (h : mayB o ts k x i = true) : mayB o ts k x (i + 1) = true := by
  unfold mayB
  rw [h]
  rfl
theorem mayB_new (o : UInt8) (ts : List UInt8) (i : Nat) : mayB o ts ((3 * i) % 16) (ts.getD i 0) (i + 1) = true := by
  unfold mayB
  simp
theorem ws2_get {ts : List UInt8} {m q : Nat} (h : q < m) : (ws2 ts m)[q]? = some ⟨0, (3 * q) % 16, fullB (ts.getD q 0)⟩ := by
  unfold ws2
  simp [h]
theorem ws2_len (ts : List UInt8) (m : Nat) : (ws2 ts m).length = m := by simp [ws2]
theorem step_odd {keep : List Int} {q : Nat} {H : List (List UInt8)} {k : Nat} {b : List UInt8} (h : keepAt keep q % 2 ≠ 0) : bootStep keep ([⟨false, 16, H⟩], []) q ⟨0, k, b⟩ = ([⟨false, 16, H.set k b⟩], []) := by
  unfold bootStep
  simp only [List.contains_nil, Bool.false_eq_true, if_false]
  rw [if_pos h, settle_KM _ _ rfl]
theorem step_even {keep : List Int} {q : Nat} {H : List (List UInt8)} {k : Nat} {b : List UInt8} (h : ¬ keepAt keep q % 2 ≠ 0) : bootStep keep ([⟨false, 16, H⟩], []) q ⟨0, k, b⟩ = ([⟨false, 16, H⟩], []) := by
  unfold bootStep
  simp only [List.contains_nil, Bool.false_eq_true, if_false]
  rw [if_neg h]
  rfl
/-- What a disk has behind a boot. -/
def Good (O ts : List UInt8) (m : Nat) (H : List (List UInt8)) : Prop := H.length = 16 ∧ ∀ k, k < 16 → ∃ x, H[k]? = some (fullB x) ∧ mayB (O.getD k 0) ts k x m = true
theorem boot_inv (keep : List Int) (O ts : List UInt8) (hO : O.length = 16) (m s : Nat) : ∀ q, q ≤ m → ∃ H, (KM (O.map fullB) (ws2 ts m) s).bootAt keep q = ([⟨false, 16, H⟩], []) ∧ Good O ts q H
  | 0, _ => ⟨O.map fullB, rfl, by simp [hO], fun k hk => ⟨O.getD k 0, by simp [List.getD_eq_getElem?_getD, hO, hk], by unfold mayB; simp⟩⟩
  | q + 1, hq => by
    obtain ⟨H, h1, hl, h2⟩ := boot_inv keep O ts hO m s q (by omega)
    rw [PM.bootAt_next (p := KM (O.map fullB) (ws2 ts m) s) (ws2_get (by omega)), h1]
    by_cases hodd : keepAt keep q % 2 ≠ 0
    · rw [step_odd hodd]
      refine ⟨_, rfl, by rw [List.length_set, hl], fun k hk => ?_⟩
      rw [List.getElem?_set]
      by_cases hkk : (3 * q) % 16 = k
      · subst hkk
        rw [if_pos rfl, if_pos (by omega)]
        exact ⟨_, rfl, mayB_new _ ts q⟩
      · rw [if_neg hkk]
        obtain ⟨x, h3, h4⟩ := h2 k hk
        exact ⟨x, h3, mayB_mono h4⟩
    · rw [step_even hodd]
      refine ⟨_, rfl, hl, fun k hk => ?_⟩
      obtain ⟨x, h3, h4⟩ := h2 k hk
      exact ⟨x, h3, mayB_mono h4⟩
theorem KM_boot (keep : List Int) (O ts : List UInt8) (hO : O.length = 16) (m s : Nat) : ∃ H, (KM (O.map fullB) (ws2 ts m) s).boot keep = KM H [] s ∧ Good O ts m H := by
  obtain ⟨H, h1, h2⟩ := boot_inv keep O ts hO m s m (Nat.le_refl _)
  refine ⟨H, ?_, h2⟩
  rw [PM.boot_eq]
  have e : (KM (O.map fullB) (ws2 ts m) s).waits.length = m := ws2_len ts m
  rw [e, h1]
  rfl
theorem boot0_inv (O ts : List UInt8) (m s : Nat) : ∀ q, q ≤ m → (KM (O.map fullB) (ws2 ts m) s).bootAt [0] q = ([⟨false, 16, O.map fullB⟩], [])
  | 0, _ => rfl
  | q + 1, hq => by
    rw [PM.bootAt_next (p := KM (O.map fullB) (ws2 ts m) s) (ws2_get (by omega)), boot0_inv O ts m s q (by omega)]
    have h0 : keepAt [0] q = 0 := by unfold keepAt; simp [Nat.mod_one]
    exact step_even (by rw [h0]; decide)
theorem KM_boot0 (O ts : List UInt8) (m s : Nat) : (KM (O.map fullB) (ws2 ts m) s).boot [0] = KM (O.map fullB) [] s := by
  rw [PM.boot_eq]
  have e : (KM (O.map fullB) (ws2 ts m) s).waits.length = m := ws2_len ts m
  rw [e, boot0_inv O ts m s m (Nat.le_refl _)]
  rfl
theorem KM_read (H : List (List UInt8)) (s i : Nat) {b : List UInt8} (h : H[i]? = some b) (hi : i < 16) : (KM H [] s).read 0 (i : Int) = (some b, 0) := by
  have hnum : (KM H [] s).num 0 = some 0 := by unfold PM.num; rfl
  unfold PM.read
  rw [hnum]
  show (if false = true then _ else if 0 ≤ (i : Int) ∧ (i : Int) < ((16 : Nat) : Int) then (some (lastW [] 0 (i : Int).toNat ((⟨false, 16, H⟩ : Dev).at_ (i : Int).toNat)), (0 : Int)) else _) = _
  rw [if_neg (by simp), if_pos (by omega)]
  unfold lastW Dev.at_
  simp [List.getD_eq_getElem?_getD, h]
theorem map_get (O : List UInt8) (hO : O.length = 16) {k : Nat} (hk : k < 16) : (O.map fullB)[k]? = some (fullB (O.getD k 0)) := by
  simp [List.getD_eq_getElem?_getD, hO, hk]
end Go.Proofs.Ytomncfiklkhfjaa.Pl.Keeps
