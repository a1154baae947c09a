/- Records and entries in plain terms: there and back. No program. -/
import Derived.Test.YtomncfiklkhfjaaRecDec
namespace Go.Proofs.Ytomncfiklkhfjaa.Rec
open Go Go.RowKit Mem _root_.Go.Proofs.Ytomncfiklkhfjaa.Frame
theorem beB_two (l : List UInt8) (h : l.length = 2) : beB (be l) 2 = l := by have := beB_be l; rwa [h] at this
theorem ofNat_toNat (b : UInt8) : UInt8.ofNat b.toNat = b := by simp
theorem name_len {id : List UInt8} (h : nameM id = true) : 1 ≤ id.length ∧ id.length ≤ 16 := by
  unfold nameM at h
  simp at h
  omega
/-- What was read as an entry is written as these bytes. -/
theorem read_entry {b id root : List UInt8} {l : Nat} (h : readM b = some (id, l, root)) : entryM id l root = some b := by
  unfold readM at h
  split at h
  · rename_i hc
    obtain ⟨h1, h2, h3, h4⟩ := hc
    injection h with h
    injection h with e1 h
    injection h with e2 e3
    generalize hn : (b.getD 0 0).toNat = n at *
    unfold entryM
    rw [show (nameM id && within (l : Int) 512) = true by rw [← e1, h3, ← e2]; unfold within; simp; omega]
    simp only [if_true]
    congr 1
    cases b with
    | nil => simp at h1
    | cons c t =>
      simp at hn h2 e1 e2 e3
      have hidl : id.length = n := by rw [← e1]; simp; omega
      unfold headB
      rw [hidl, ← hn, ofNat_toNat, Int.toNat_natCast]
      have e2' : beB l 2 = ((c :: t).drop (1 + n)).take 2 := by
        rw [← e2]
        exact beB_two _ (by simp; omega)
      rw [e2', ← e1, ← e3]
      simp only [Nat.add_comm 1 n, Nat.add_comm 3 n, List.drop_succ_cons]
      rw [List.take_of_length_le (i := 32) (by simp; omega)]
      rw [show List.drop (n + 2) t = List.drop 2 (List.drop n t) by rw [List.drop_drop]]
      have : List.take n t ++ (List.take 2 (List.drop n t) ++ List.drop 2 (List.drop n t)) = t := by rw [List.take_append_drop, List.take_append_drop]
      rw [List.append_assoc, List.append_assoc, this]
      rfl
  · cases h
/-- What was written as an entry is read as it was. -/
theorem entry_read {b id root : List UInt8} {len : Int} (h32 : root.length = 32) (h : entryM id len root = some b) : readM b = some (id, len.toNat, root) := by
  unfold entryM at h
  split at h
  · rename_i hc
    rw [Bool.and_eq_true] at hc
    obtain ⟨hn, hw⟩ := hc
    have h16 := name_len hn
    have hl : 0 ≤ len ∧ len ≤ 512 := by simpa [within] using hw
    injection h with h
    subst h
    have h0 : ((headB id len root).getD 0 0).toNat = id.length := by simp [headB]; omega
    have hlen : (headB id len root).length = 1 + id.length + 34 := by simp [headB, beB_length, h32]; omega
    have e1 : ((headB id len root).drop 1).take id.length = id := by simp [headB]
    have e2 : ((headB id len root).drop (1 + id.length)).take 2 = beB len.toNat 2 := by
      rw [Nat.add_comm 1]
      simp [headB, beB_length]
    have e3 : ((headB id len root).drop (3 + id.length)).take 32 = root := by
      rw [show 3 + id.length = (id.length + 2) + 1 by omega]
      simp only [headB, List.singleton_append, List.cons_append, List.append_assoc, List.drop_succ_cons, List.nil_append]
      rw [show id ++ (beB len.toNat 2 ++ root) = (id ++ beB len.toNat 2) ++ root by simp, List.drop_left' (l₁ := id ++ beB len.toNat 2) (l₂ := root) (by simp [beB_length]), List.take_of_length_le (by omega)]
    unfold readM
    rw [h0, e1, e2, e3, be_beB, if_pos ⟨by omega, hlen, hn, by omega⟩]
    have : len.toNat % 256 ^ 2 = len.toNat := Nat.mod_eq_of_lt (by omega)
    rw [this]
  · cases h
/-! ### Records -/
theorem cpy_of_bytes (bs : List UInt8) (h : 5 ≤ bs.length) (hb : (bs.getD 4 0).toNat < 2) : (cpyOf bs).bytes = bs.take 5 := by
  match bs, h with
  | a :: b :: c :: d :: e :: r, _ =>
    simp [List.getD] at hb
    have h2 : beB (be [b, c]) 2 = [b, c] := beB_two _ rfl
    have he : (if (e.toNat == 1) = true then (1 : UInt8) else 0) = e := by
      have : e.toNat = 0 ∨ e.toNat = 1 := by omega
      rcases this with h | h
      · rw [h]; apply UInt8.toNat_inj.1; simp [h]
      · rw [h]; apply UInt8.toNat_inj.1; simp [h]
    simp [Cpy.bytes, cpyOf, List.getD, h2]
    simpa using he
theorem copies_bytes : ∀ (k : Nat) (bs : List UInt8) (l : List Cpy) (r : List UInt8), copiesM k bs = some (l, r) → bs = (l.map Cpy.bytes).flatten ++ r ∧ l.length = k
  | 0, bs, l, r, h => by
    simp [copiesM] at h
    obtain ⟨rfl, rfl⟩ := h
    simp
  | k + 1, bs, l, r, h => by
    simp only [copiesM] at h
    split at h
    · rename_i hc
      cases hq : copiesM k (bs.drop 5) with
      | none => rw [hq] at h; cases h
      | some x =>
        rw [hq] at h
        obtain ⟨l', r'⟩ := x
        simp only [Option.map_some, Option.some.injEq, Prod.mk.injEq] at h
        obtain ⟨rfl, rfl⟩ := h
        obtain ⟨h1, h2⟩ := copies_bytes k (bs.drop 5) l' r' hq
        refine ⟨?_, by simp [h2]⟩
        rw [List.map_cons, List.flatten_cons, cpy_of_bytes bs hc.1 hc.2, List.append_assoc, ← h1, List.take_append_drop]
    · cases h
theorem copies_of (l : List Cpy) (h : ∀ c ∈ l, c.may = true) (r : List UInt8) : copiesM l.length ((l.map Cpy.bytes).flatten ++ r) = some (l, r) := by
  induction l with
  | nil => rfl
  | cons c l ih =>
    obtain ⟨hd0, hd1, hp0, hp1, hl0, hl1⟩ := (cpy_iff c).1 (h c (List.mem_cons_self ..))
    obtain ⟨d, p, n, b⟩ := c
    dsimp only at hd0 hd1 hp0 hp1 hl0 hl1
    obtain ⟨d, rfl⟩ := Int.eq_ofNat_of_zero_le hd0
    obtain ⟨p, rfl⟩ := Int.eq_ofNat_of_zero_le hp0
    obtain ⟨n, rfl⟩ := Int.eq_ofNat_of_zero_le hl0
    have ih' := ih fun c hc => h c (List.mem_cons_of_mem _ hc)
    have e : ((⟨(d : Int), (p : Int), (n : Int), b⟩ : Cpy) :: l).map Cpy.bytes = [UInt8.ofNat d, UInt8.ofNat (p / 256), UInt8.ofNat p, UInt8.ofNat n, if b then 1 else 0] :: l.map Cpy.bytes := by
      simp [Cpy.bytes, beB]
    rw [e, List.flatten_cons]
    simp only [List.length_cons, copiesM]
    have h4 : (([UInt8.ofNat d, UInt8.ofNat (p / 256), UInt8.ofNat p, UInt8.ofNat n, if b then 1 else 0] ++ (l.map Cpy.bytes).flatten ++ r : List UInt8)).drop 5 = (l.map Cpy.bytes).flatten ++ r := by simp
    rw [if_pos ⟨by simp, by cases b <;> simp [List.getD]⟩, h4, ih']
    have hp : be [UInt8.ofNat (p / 256), UInt8.ofNat p] = p := by
      have := be_beB p 2
      simp [beB] at this
      rw [this]
      exact Nat.mod_eq_of_lt (by omega)
    have hb : ((if b = true then (1 : UInt8) else 0).toNat == 1) = b := by cases b <;> rfl
    simp [cpyOf, List.getD, hp, hb]
    omega
theorem flags_of (f : UInt8) (h : f.toNat < 4) : flags (f.toNat % 2 == 1) (f.toNat / 2 % 2 == 1) = f := by
  have : ∀ g : UInt8, g.toNat < 4 → flags (g.toNat % 2 == 1) (g.toNat / 2 % 2 == 1) = g := by
    intro g hg
    have : g.toNat = 0 ∨ g.toNat = 1 ∨ g.toNat = 2 ∨ g.toNat = 3 := by omega
    rcases this with h | h | h | h <;> (apply UInt8.toNat_inj.1; rw [h]; rfl)
  exact this f h
theorem drop_take (l : List UInt8) (i j : Nat) : (l.drop i).take j ++ l.drop (i + j) = l.drop i := by
  rw [← List.drop_drop, List.take_append_drop]
/-- What was read as a record is written as these bytes. -/
theorem dec_enc {b : List UInt8} {r : R} (h : decodeM b = some r) : r.encode = some b := by
  unfold decodeM restM at h
  split at h
  · rename_i hc
    obtain ⟨h46, hf4⟩ := hc
    split at h
    · rename_i l hl
      split at h
      · rename_i hm
        injection h with h
        unfold R.encode
        rw [← h, if_pos hm]
        congr 1
        generalize hn : (b.getD 0 0).toNat = n at *
        generalize hrest : b.drop (1 + n) = rest at *
        obtain ⟨hbytes, hll⟩ := copies_bytes _ _ _ _ hl
        rw [List.append_nil] at hbytes
        cases b with
        | nil => rw [← hrest] at h46; simp at h46
        | cons c t =>
          have hct : c.toNat = n := by simpa using hn
          have hr2 : rest = t.drop n := by rw [← hrest, Nat.add_comm 1, List.drop_succ_cons]
          have htl : n ≤ t.length := by
            rw [hr2] at h46
            simp at h46
            omega
          have hidl : (List.take n (List.drop 1 (c :: t))).length = n := by simp; omega
          unfold R.bytes headB recOf
          dsimp only
          rw [hidl, ← hct, ofNat_toNat, Int.toNat_natCast, Int.toNat_natCast, Int.toNat_natCast, hll, ofNat_toNat, flags_of _ hf4, ← hbytes, hct]
          have e2 : beB (be (rest.take 2)) 2 = rest.take 2 := beB_two _ (by simp; omega)
          have e4 : beB (be ((rest.drop 34).take 4)) 4 = (rest.drop 34).take 4 := by
            have := beB_be ((rest.drop 34).take 4)
            rwa [List.length_take_of_le (by simp; omega)] at this
          have e6 : beB (be ((rest.drop 38).take 6)) 6 = (rest.drop 38).take 6 := by
            have := beB_be ((rest.drop 38).take 6)
            rwa [List.length_take_of_le (by simp; omega)] at this
          rw [e2, e4, e6]
          have e44 : [rest.getD 44 0, rest.getD 45 0] ++ rest.drop 46 = rest.drop 44 := by
            rw [List.drop_eq_getElem_cons (i := 44) (by omega), List.drop_eq_getElem_cons (i := 45) (by omega)]
            simp [List.getD, show 44 < rest.length by omega, show 45 < rest.length by omega]
          have hid : List.take n (List.drop 1 (c :: t)) = List.take n t := rfl
          rw [hid]
          simp only [List.append_assoc]
          rw [show ([rest.getD 44 0, rest.getD 45 0] ++ List.drop 46 rest : List UInt8) = rest.drop 44 from e44]
          rw [drop_take rest 38 6, drop_take rest 34 4, drop_take rest 2 32, List.take_append_drop, hr2, List.take_append_drop]
          rfl
      · cases h
    · cases h
  · cases h
theorem cpys_len (l : List Cpy) : ((l.map Cpy.bytes).flatten).length = l.length * 5 := by
  induction l with
  | nil => rfl
  | cons c l ih => simp [Cpy.bytes, beB_length] at ih ⊢; omega
theorem flags_lt (h g : Bool) : (flags h g).toNat < 4 ∧ ((flags h g).toNat % 2 == 1) = h ∧ ((flags h g).toNat / 2 % 2 == 1) = g := by cases h <;> cases g <;> decide
theorem beB_be' (n k : Nat) (h : n < 256 ^ k) : be (beB n k) = n := by rw [be_beB]; exact Nat.mod_eq_of_lt h
theorem drop_left_ (a b : List UInt8) (n : Nat) (h : a.length = n) : (a ++ b).drop n = b := List.drop_left' h
theorem take_left_ (a b : List UInt8) (n : Nat) (h : a.length = n) : (a ++ b).take n = a := List.take_left' h
/-- What was written as a record is read as it was, and is short enough for a value. -/
theorem enc_dec {b : List UInt8} {r : R} (h : r.encode = some b) : decodeM b = some r ∧ b.length ≤ 160 := by
  unfold R.encode at h
  split at h
  · rename_i hm
    injection h with h
    obtain ⟨hhead, hcps⟩ := may_true hm
    obtain ⟨hn, hl0, hl1, hi0, hi1, he0, he1, hk8⟩ := (head_iff r).1 hhead
    have h16 := name_len hn
    have hco := copies_of r.copies hcps []
    rw [List.append_nil] at hco
    have hcl := cpys_len r.copies
    obtain ⟨id, len, root, idx, exp, hold, gone, copies, h32⟩ := r
    dsimp only at *
    obtain ⟨l, rfl⟩ := Int.eq_ofNat_of_zero_le hl0
    obtain ⟨x, rfl⟩ := Int.eq_ofNat_of_zero_le hi0
    obtain ⟨t, rfl⟩ := Int.eq_ofNat_of_zero_le he0
    have hfl := flags_lt hold gone
    generalize hcb : (copies.map Cpy.bytes).flatten = cb at *
    -- what is behind the id
    have hb : b = UInt8.ofNat id.length :: (id ++ (beB l 2 ++ (root ++ (beB x 4 ++ (beB t 6 ++ (flags hold gone :: UInt8.ofNat copies.length :: cb)))))) := by
      rw [← h]
      unfold R.bytes headB
      simp [List.append_assoc, hcb]
    have h2l : (beB l 2).length = 2 := beB_length _ _
    have h4l : (beB x 4).length = 4 := beB_length _ _
    have h6l : (beB t 6).length = 6 := beB_length _ _
    refine ⟨?_, by rw [hb]; simp [h2l, h4l, h6l, h32, hcl]; omega⟩
    unfold decodeM
    have h0 : (b.getD 0 0).toNat = id.length := by rw [hb]; simp; omega
    have e1 : (b.drop 1).take id.length = id := by rw [hb]; simp
    have e2 : b.drop (1 + id.length) = beB l 2 ++ (root ++ (beB x 4 ++ (beB t 6 ++ (flags hold gone :: UInt8.ofNat copies.length :: cb)))) := by
      rw [hb, Nat.add_comm 1, List.drop_succ_cons]
      exact drop_left_ _ _ _ rfl
    rw [h0, e1, e2]
    generalize hrest : beB l 2 ++ (root ++ (beB x 4 ++ (beB t 6 ++ (flags hold gone :: UInt8.ofNat copies.length :: cb)))) = rest
    have d2 : rest.drop 2 = root ++ (beB x 4 ++ (beB t 6 ++ (flags hold gone :: UInt8.ofNat copies.length :: cb))) := by rw [← hrest]; exact drop_left_ _ _ _ h2l
    have t2 : rest.take 2 = beB l 2 := by rw [← hrest]; exact take_left_ _ _ _ h2l
    have d34 : rest.drop 34 = beB x 4 ++ (beB t 6 ++ (flags hold gone :: UInt8.ofNat copies.length :: cb)) := by
      rw [show 34 = 2 + 32 from rfl, ← List.drop_drop, d2]; exact drop_left_ _ _ _ h32
    have d38 : rest.drop 38 = beB t 6 ++ (flags hold gone :: UInt8.ofNat copies.length :: cb) := by
      rw [show 38 = 34 + 4 from rfl, ← List.drop_drop, d34]; exact drop_left_ _ _ _ h4l
    have d44 : rest.drop 44 = flags hold gone :: UInt8.ofNat copies.length :: cb := by
      rw [show 44 = 38 + 6 from rfl, ← List.drop_drop, d38]; exact drop_left_ _ _ _ h6l
    have d46 : rest.drop 46 = cb := by rw [show 46 = 44 + 2 from rfl, ← List.drop_drop, d44]; rfl
    have g44 : rest.getD 44 0 = flags hold gone := by
      have : (rest.drop 44).getD 0 0 = rest.getD 44 0 := by simp [List.getD]
      rw [← this, d44]; rfl
    have g45 : rest.getD 45 0 = UInt8.ofNat copies.length := by
      have : (rest.drop 44).getD 1 0 = rest.getD 45 0 := by simp [List.getD]
      rw [← this, d44]; rfl
    have hlen : 46 ≤ rest.length := by rw [← hrest]; simp [h2l, h4l, h6l, h32]; omega
    have hk : (UInt8.ofNat copies.length).toNat = copies.length := by simp; omega
    have hrs := restM_some (id := id) (rest := rest) (l := copies) ⟨hlen, by rw [g44]; exact hfl.1⟩ (by rw [g45, hk, d46]; exact hco)
    have hrec : recOf id rest copies hlen = ⟨id, l, root, x, t, hold, gone, copies, h32⟩ := by
      unfold recOf
      congr 1
      · rw [t2, beB_be' _ _ (by omega)]
      · rw [d2, take_left_ _ _ _ h32]
      · rw [d34, take_left_ _ _ _ h4l, beB_be' _ _ (by omega)]
      · rw [d38, take_left_ _ _ _ h6l, beB_be' _ _ (by omega)]
      · rw [g44]; exact hfl.2.1
      · rw [g44]; exact hfl.2.2
    rw [hrs, hrec, if_pos hm]
  · cases h
end Go.Proofs.Ytomncfiklkhfjaa.Rec
