/- The plain law of 'PlantOff': while the power is off nothing is done. No program. -/
import Derived.Test.YtomncfiklkhfjaaFold5
import Derived.Test.YtomncfiklkhfjaaFold8
import Derived.Test.YtomncfiklkhfjaaPlCopy
import Derived.Test.YtomncfiklkhfjaaFold0
import Derived.Laws.BitsAllLaws
import Derived.Laws.BitsLemmas
namespace Go.Proofs.Ytomncfiklkhfjaa.Pl.Off
open Go Go.RowKit Mem
def d0 : Dev := ⟨false, 8, List.replicate 8 zeros⟩
def d1 : Dev := ⟨true, 8, []⟩
/-- A plant with a disk and a tape of eight. -/
def OM (ws : List Wr) (off : Bool) (fu : Option Nat) (s : Nat) : PM := { disks := [8], tapes := [8], devs := [d0, d1], waits := ws, off := off, fuse := fu, steps := s, now := 0 }
theorem OM_new : newM [8] [8] = some (OM [] false none 0) := by kernel_rfl
theorem OM_fuse (ws : List Wr) (fu : Option Nat) (s f : Nat) : (OM ws false fu s).setFuse (f : Int) = OM ws false (some f) s := by
  unfold PM.setFuse
  show (if false = true then _ else _) = _
  rw [if_neg (by simp)]
  show ({ OM ws false fu s with fuse := if (f : Int) < 0 then none else some (f : Int).toNat } : PM) = _
  rw [if_neg (by omega)]
  rfl
theorem OM_fuse_off (ws : List Wr) (fu : Option Nat) (s : Nat) (n : Int) : (OM ws true fu s).setFuse n = OM ws true fu s := by
  unfold PM.setFuse
  exact if_pos rfl
/-- The state with a fuse of f, so many steps done. -/
def At (f done : Nat) (p : PM) : Prop := ∃ ws, (p = OM ws false (some (f - done)) done ∧ done ≤ f) ∨ (p = OM ws true none done ∧ done = f)
theorem OM_give (ws : List Wr) (f done j k : Nat) (b : List UInt8) (h : done ≤ f) :
    (OM ws false (some (f - done)) done).give j k b = if done < f then (OM (ws ++ [⟨j, k, b⟩]) false (some (f - (done + 1))) (done + 1), 0) else (OM ws true none done, 2) := by
  unfold PM.give
  by_cases hlt : done < f
  · rw [if_pos hlt]
    have e : f - done = (f - (done + 1)) + 1 := by omega
    rw [e]
    rfl
  · rw [if_neg hlt]
    have e : f - done = 0 := by omega
    rw [e]
    rfl
theorem OM_write_on (ws : List Wr) (f done k : Nat) (b : List UInt8) (h : done ≤ f) (hk : k < 8) (hb : b.length = 64) :
    (OM ws false (some (f - done)) done).write 0 (k : Int) b = if done < f then (OM (ws ++ [⟨0, k, b⟩]) false (some (f - (done + 1))) (done + 1), 0) else (OM ws true none done, 2) := by
  have hnum : (OM ws false (some (f - done)) done).num 0 = some 0 := by unfold PM.num; rfl
  unfold PM.write
  rw [hnum]
  show (if false = true then _ else if d0.tape = true ∨ ¬ (0 ≤ (k : Int) ∧ (k : Int) < (d0.most : Int)) then _ else if b.length ≠ 64 then _ else (OM ws false (some (f - done)) done).give 0 (k : Int).toNat b) = _
  have h8 : (d0.most : Int) = 8 := rfl
  rw [if_neg (by simp), if_neg (by rw [h8]; simp [d0]; omega), if_neg (by simp [hb])]
  exact OM_give ws f done 0 k b h
theorem OM_write_off (ws : List Wr) (fu : Option Nat) (s : Nat) (i k : Int) (b : List UInt8) : (OM ws true fu s).write i k b = (OM ws true fu s, 2) := if_pos rfl
theorem OM_append_off (ws : List Wr) (fu : Option Nat) (s : Nat) (i : Int) (b : List UInt8) : (OM ws true fu s).append i b = (OM ws true fu s, 0, 2) := if_pos rfl
theorem OM_read_off (ws : List Wr) (fu : Option Nat) (s : Nat) (i k : Int) : (OM ws true fu s).read i k = (none, 2) := if_pos rfl
theorem OM_flush_off (ws : List Wr) (fu : Option Nat) (s : Nat) (i : Int) : (OM ws true fu s).flush i = (OM ws true fu s, 2) := if_pos rfl
theorem OM_append_on (ws : List Wr) (f done : Nat) (b : List UInt8) (h : done ≤ f) (hb : b.length = 64) :
    ((OM ws false (some (f - done)) done).append 1 b).2.2 = 3 ∧ ((OM ws false (some (f - done)) done).append 1 b).1 = OM ws false (some (f - done)) done ∨
    (done < f ∧ ((OM ws false (some (f - done)) done).append 1 b).2.2 = 0 ∧ ∃ ws', ((OM ws false (some (f - done)) done).append 1 b).1 = OM ws' false (some (f - (done + 1))) (done + 1)) ∨
    (done = f ∧ ((OM ws false (some (f - done)) done).append 1 b).2.2 = 2 ∧ ((OM ws false (some (f - done)) done).append 1 b).1 = OM ws true none done) := by
  have hnum : (OM ws false (some (f - done)) done).num 1 = some 1 := by unfold PM.num; rfl
  have e : (OM ws false (some (f - done)) done).append 1 b = if d1.size ws 1 = 8 then (OM ws false (some (f - done)) done, 0, 3) else
      if ((OM ws false (some (f - done)) done).give 1 (d1.size ws 1) b).2 = 0 then (((OM ws false (some (f - done)) done).give 1 (d1.size ws 1) b).1, ((d1.size ws 1 : Nat) : Int), 0) else (((OM ws false (some (f - done)) done).give 1 (d1.size ws 1) b).1, 0, 2) := by
    unfold PM.append
    rw [hnum]
    show (if false = true then _ else if (true = false) then _ else if b.length ≠ 64 then _ else _) = _
    rw [if_neg (by simp), if_neg (by simp), if_neg (by simp [hb])]
    rfl
  rw [e]
  by_cases h8 : d1.size ws 1 = 8
  · rw [if_pos h8]
    exact .inl ⟨rfl, rfl⟩
  · rw [if_neg h8, OM_give ws f done 1 _ b h]
    by_cases hlt : done < f
    · simp only [if_pos hlt, if_true]
      exact .inr (.inl ⟨hlt, by first | rfl | trivial, _, rfl⟩)
    · simp only [if_neg hlt]
      exact .inr (.inr ⟨by omega, rfl, rfl⟩)
/-- The last flush finds the fuse at its end. -/
theorem OM_flush_on (ws : List Wr) (s : Nat) : (OM ws false (some 0) s).flush 0 = (OM ws true none s, 2) := by
  have hnum : (OM ws false (some 0) s).num 0 = some 0 := by unfold PM.num; rfl
  unfold PM.flush
  rw [hnum]
  rfl
theorem boot1_ended (p : PM) : ∀ q, q ≤ p.waits.length → (p.bootAt [1] q).2 = []
  | 0, _ => rfl
  | q + 1, h => by
    have hx : p.waits[q]? = some p.waits[q] := List.getElem?_eq_getElem (by omega)
    rw [PM.bootAt_next hx]
    have ih := boot1_ended p q (by omega)
    generalize p.bootAt [1] q = s at ih
    obtain ⟨s1, s2⟩ := s
    simp only at ih
    subst ih
    have hk : keepAt [1] q = 1 := by unfold keepAt; simp [Nat.mod_one]
    unfold bootStep
    simp only [List.contains_nil, Bool.false_eq_true, if_false, hk]
    rw [if_pos (by decide)]
/-- Behind a boot that keeps all, the tape is as long as it was. -/
theorem OM_len_boot (ws : List Wr) (off : Bool) (fu : Option Nat) (s : Nat) (hok : (OM ws off fu s).Ok) : ((OM ws off fu s).boot [1]).len 1 = (OM ws off fu s).len 1 := by
  have hi := hok.bootInv [1] ws.length (Nat.le_refl _)
  obtain ⟨d', h1, h2, _, _, h5, _⟩ := hi.dev 1 d1 rfl
  have he := boot1_ended (OM ws off fu s) ws.length (Nat.le_refl _)
  have hl := h5 rfl (by rw [he]; rfl)
  have hlen : ((OM ws off fu s).bootAt [1] ws.length).1.length = 2 := hi.len
  rw [PM.boot_eq]
  have e1 : (OM ws off fu s).len 1 = (((0 + cnt ws 1 : Nat) : Int), 0) := by
    have hnum : (OM ws off fu s).num 1 = some 1 := by unfold PM.num; rfl
    unfold PM.len
    rw [hnum]
    rfl
  rw [e1]
  unfold PM.len PM.num
  show (match (if 0 ≤ (1 : Int) ∧ (1 : Int) < (((OM ws off fu s).bootAt [1] ws.length).1.length : Int) then some (1 : Int).toNat else none) with | none => ((0 : Int), (31 : Int)) | some j => match ((OM ws off fu s).bootAt [1] ws.length).1[j]? with | none => (0, 31) | some d => ((d.size [] j : Nat), 0)) = _
  rw [hlen, if_pos (by decide)]
  show (match ((OM ws off fu s).bootAt [1] ws.length).1[1]? with | none => ((0 : Int), (31 : Int)) | some d => ((d.size [] 1 : Nat), 0)) = _
  have h1' : ((OM ws off fu s).bootAt [1] ws.length).1[1]? = some d' := h1
  rw [h1']
  have ht : d'.tape = true := h2
  show (((d'.size [] 1 : Nat) : Int), (0 : Int)) = _
  unfold Dev.size
  rw [if_pos ht, hl]
  show (((d1.has.length + cnt (ws.take ws.length) 1 + cnt [] 1 : Nat) : Int), (0 : Int)) = _
  rw [List.take_length]
  simp [d1, cnt]
end Go.Proofs.Ytomncfiklkhfjaa.Pl.Off
/- Two plants beside one another within a law; the rounds of 'PlantOff'. -/
namespace Go.Proofs.Ytomncfiklkhfjaa.Pl
open Go Go.RowKit Mem
section
variable {B : Nat} {w w' : World} {F G : Nat → Prop} {a c : Nat} {p q : PM} {n m : Nat}
/-- The clone, and the plant as it was: no block is both's. -/
theorem St.copy (h : St B w F a p n) (hB : B ≤ w.heap.size) (hn : n ≤ 1000000000) :
    Calls Try.prog 37 #[.pointer (some ⟨a, 0, none⟩)] w fun e w' => ∃ b, e = .returned (.pointer (some ⟨b, 0, none⟩)) ∧ St B w' F a p n ∧ St B w' (New w w') b p n ∧ (∀ g, F g → ¬ New w w' g) ∧ Below w.heap.size w w' :=
  (copy_any h.at_ h.ok (h.low hn)).mono fun e w' ⟨b, he, hp, hb⟩ => ⟨b, he, h.below hb, ⟨hp, h.ok, fun g hg => ⟨Nat.le_trans hB hg.1, hg.2⟩, h.steps, h.waits⟩, fun g hf hg => by
    have h1 := (h.lt g hf).2
    have h2 := hg.1
    omega, hb⟩
/-- What is done to the one leaves the other. -/
theorem St.beside (hq : St B w G c q m) (hm : Mods w.heap.size F w w') (hd : ∀ g, F g → ¬ G g) : St B w' G c q m ∧ ∀ g, Grow F w w' g → ¬ G g :=
  ⟨⟨hq.at_.mods hm fun g hg hG => ⟨hg, fun hF => hd g hF hG⟩, hq.ok, fun g hg => ⟨(hq.lt g hg).1, Nat.lt_of_lt_of_le (hq.lt g hg).2 hm.size⟩, hq.steps, hq.waits⟩, fun g hg hG => by
    rcases hg with hg | hg
    · exact hd g hg hG
    · have h1 := (hq.lt g hG).2
      have h2 := hg.1
      omega⟩
theorem disj_symm (hd : ∀ g, F g → ¬ G g) : ∀ g, G g → ¬ F g := fun g hg hf => hd g hf hg
end
namespace Off
theorem At.start (f : Nat) : At f 0 (OM [] false (some f) 0) := ⟨[], .inl ⟨rfl, Nat.zero_le _⟩⟩
theorem At.steps {f done : Nat} {p : PM} (h : At f done p) : p.steps = done ∧ done ≤ f := by
  obtain ⟨ws, ⟨rfl, h⟩ | ⟨rfl, h⟩⟩ := h
  · exact ⟨rfl, h⟩
  · exact ⟨rfl, by omega⟩
theorem At.write {f done k : Nat} {p : PM} (h : At f done p) (hk : k < 8) {b : List UInt8} (hb : b.length = 64) :
    (done < f ∧ (p.write 0 (k : Int) b).2 = 0 ∧ At f (done + 1) (p.write 0 (k : Int) b).1) ∨ (done = f ∧ (p.write 0 (k : Int) b).2 = 2 ∧ At f done (p.write 0 (k : Int) b).1) := by
  obtain ⟨ws, ⟨rfl, h⟩ | ⟨rfl, h⟩⟩ := h
  · rw [OM_write_on ws f done k b h hk hb]
    by_cases hlt : done < f
    · rw [if_pos hlt]
      exact .inl ⟨hlt, rfl, _, .inl ⟨rfl, hlt⟩⟩
    · rw [if_neg hlt]
      exact .inr ⟨by omega, rfl, ws, .inr ⟨rfl, by omega⟩⟩
  · rw [OM_write_off]
    exact .inr ⟨h, rfl, ws, .inr ⟨rfl, h⟩⟩
theorem At.append {f done : Nat} {p : PM} (h : At f done p) {b : List UInt8} (hb : b.length = 64) :
    ((p.append 1 b).2.2 = 3 ∧ At f done (p.append 1 b).1) ∨ (done < f ∧ (p.append 1 b).2.2 = 0 ∧ At f (done + 1) (p.append 1 b).1) ∨ (done = f ∧ (p.append 1 b).2.2 = 2 ∧ At f done (p.append 1 b).1) := by
  obtain ⟨ws, ⟨rfl, h⟩ | ⟨rfl, h⟩⟩ := h
  · rcases OM_append_on ws f done b h hb with ⟨h1, h2⟩ | ⟨hlt, h1, ws', h2⟩ | ⟨he, h1, h2⟩
    · rw [h2]
      exact .inl ⟨h1, ws, .inl ⟨rfl, h⟩⟩
    · rw [h2]
      exact .inr (.inl ⟨hlt, h1, ws', .inl ⟨rfl, hlt⟩⟩)
    · rw [h2]
      exact .inr (.inr ⟨he, h1, ws, .inr ⟨rfl, he⟩⟩)
  · rw [OM_append_off]
    exact .inr (.inr ⟨h, rfl, ws, .inr ⟨rfl, h⟩⟩)
/-- The fuse is set to nothing, and a flush finds it so: the power is off. -/
theorem At.last {f done : Nat} {p : PM} (h : At f done p) : ∃ ws, (p.setFuse 0).flush 0 = (OM ws true none done, 2) := by
  obtain ⟨ws, ⟨rfl, h⟩ | ⟨rfl, h⟩⟩ := h
  · refine ⟨ws, ?_⟩
    rw [show (0 : Int) = ((0 : Nat) : Int) from rfl, OM_fuse]
    exact OM_flush_on ws done
  · refine ⟨ws, ?_⟩
    rw [OM_fuse_off, OM_flush_off]
end Off
end Go.Proofs.Ytomncfiklkhfjaa.Pl
/- CRC-32 in plain terms: the step by the table of sixteen sums, and the step bit by bit, over BitVec 32; the rules that bring the walk's integers to them. No program. -/
namespace Go.Proofs.Ytomncfiklkhfjaa.Crc
open Go Mem

def z8 (c : UInt8) : BitVec 32 := c.toBitVec.setWidth 32
def nib (i : Nat) : BitVec 32 := #[0x00000000#32, 0x1db71064#32, 0x3b6e20c8#32, 0x26d930ac#32, 0x76dc4190#32, 0x6b6b51f4#32, 0x4db26158#32, 0x5005713c#32,
  0xedb88320#32, 0xf00f9344#32, 0xd6d6a3e8#32, 0xcb61b38c#32, 0x9b64c2b0#32, 0x86d3d2d4#32, 0xa00ae278#32, 0xbdbdf21c#32].getD i 0
def half (r : BitVec 32) : BitVec 32 := nib (r.toNat % 16) ^^^ (r >>> 4)
def byteT (r : BitVec 32) (c : UInt8) : BitVec 32 := half (half (r ^^^ z8 c))
def bit1 (r : BitVec 32) : BitVec 32 := if r.toNat % 2 = 1 then (r >>> 1) ^^^ 0xedb88320#32 else r >>> 1
def rep : Nat → (BitVec 32 → BitVec 32) → BitVec 32 → BitVec 32
  | 0, _, x => x
  | n + 1, f, x => f (rep n f x)
def byteB (r : BitVec 32) (c : UInt8) : BitVec 32 := rep 8 bit1 (r ^^^ z8 c)
/-- 'More', by the bits. -/
def more (s : BitVec 32) (l : List UInt8) : BitVec 32 := ~~~ (l.foldl byteB (~~~ s))

theorem z8_toNat (c : UInt8) : (z8 c).toNat = c.toNat := by
  have : c.toNat < 256 := c.toNat_lt
  simp [z8, BitVec.toNat_setWidth]

/-! ### The walk's integers: a word is 'U x', so that simp does not take it apart -/
def U (x : BitVec 32) : Int := (x.toNat : Int)
def lo4 (x : BitVec 32) : Nat := x.toNat % 16
theorem lo4_lt (x : BitVec 32) : lo4 x < 16 := Nat.mod_lt _ (by decide)
theorem U_lt (x : BitVec 32) : 0 ≤ U x ∧ U x < 4294967296 := ⟨by unfold U; omega, by have := x.isLt; unfold U; omega⟩
theorem U_inj {x y : BitVec 32} : U x = U y ↔ x = y := by
  unfold U
  rw [Int.ofNat_inj, BitVec.toNat_inj]
theorem U_ofInt (n : Int) (h0 : 0 ≤ n) (h1 : n < 4294967296) : n = U (BitVec.ofInt 32 n) := by
  obtain ⟨m, rfl⟩ := Int.eq_ofNat_of_zero_le h0
  unfold U
  rw [ofInt_u32 m (by omega)]
theorem xor_bv (x y : BitVec 32) : bits .xor .u32 (U x) (U y) = U (x ^^^ y) := by
  unfold U; rw [u32_xor_nat _ _ x.isLt y.isLt, BitVec.toNat_xor]
theorem xor_z8 (x : BitVec 32) (c : UInt8) : bits .xor .u32 (U x) (V8 c % 4294967296) = U (x ^^^ z8 c) := by
  have h : (V8 c % 4294967296) = U (z8 c) := by
    have : c.toNat < 256 := c.toNat_lt
    unfold U V8; rw [z8_toNat]; omega
  rw [h, xor_bv]
theorem and_15 (x : BitVec 32) : bits .and .u32 (U x) 15 = (lo4 x : Int) := by
  have := u32_and_nat x.toNat 15 x.isLt (by decide)
  rw [show ((15 : Nat) : Int) = 15 from rfl] at this
  unfold U lo4
  rw [this, nat_mask4]
theorem shr_bv (y : BitVec 32) (k : Nat) (n : Int) (h : n = 2 ^ k) : U y / n = U (y >>> k) := by
  unfold U
  rw [BitVec.toNat_ushiftRight, Nat.shiftRight_eq_div_pow, h]
  simp
theorem xor_shr4 (x y : BitVec 32) : bits .xor .u32 (U x) (U y / (16 : Int)) = U (x ^^^ y >>> 4) := by
  rw [shr_bv y 4 16 (by decide), xor_bv]
theorem not_bv (x : BitVec 32) : bits .xor .u32 IntKind.u32.max (U x) = U (~~~ x) := by
  have h : IntKind.u32.max = U (BitVec.allOnes 32) := by decide
  rw [h, xor_bv, BitVec.allOnes_xor]

theorem shr1_bv (x : BitVec 32) : U x / (2 : Int) = U (x >>> 1) := shr_bv x 1 2 (by decide)
theorem xor_poly (x : BitVec 32) : bits .xor .u32 (U x) 3988292384 = U (x ^^^ 0xedb88320#32) := by
  have h : (3988292384 : Int) = U 0xedb88320#32 := by decide
  rw [h, xor_bv]
theorem bit1_odd {x : BitVec 32} (h : U x % 2 = 1) : bit1 x = (x >>> 1) ^^^ 0xedb88320#32 := by
  unfold bit1
  rw [if_pos]
  unfold U at h; omega
theorem bit1_even {x : BitVec 32} (h : ¬ U x % 2 = 1) : bit1 x = x >>> 1 := by
  unfold bit1
  rw [if_neg]
  unfold U at h; omega

/-! ### One bit at a time -/
def bit1' (r : BitVec 32) : BitVec 32 := (r >>> 1) ^^^ (if r.getLsbD 0 then 0xedb88320#32 else 0#32)
theorem bit1_eq (r : BitVec 32) : bit1 r = bit1' r := by
  unfold bit1 bit1'
  have h : r.getLsbD 0 = decide (r.toNat % 2 = 1) := by
    rw [BitVec.getLsbD, Nat.testBit_zero]
  rw [h]
  by_cases h2 : r.toNat % 2 = 1 <;> simp [h2]
theorem bit1_xor (x y : BitVec 32) : bit1 (x ^^^ y) = bit1 x ^^^ bit1 y := by
  rw [bit1_eq, bit1_eq, bit1_eq]
  unfold bit1'
  rw [BitVec.getLsbD_xor, BitVec.ushiftRight_xor_distrib]
  cases hx : x.getLsbD 0 <;> cases hy : y.getLsbD 0 <;> simp
  · ac_rfl
  · ac_rfl
  · rw [show ∀ p q c : BitVec 32, p ^^^ c ^^^ (q ^^^ c) = p ^^^ q ^^^ (c ^^^ c) from fun p q c => by ac_rfl, BitVec.xor_self, BitVec.xor_zero]
theorem rep_xor (n : Nat) (x y : BitVec 32) : rep n bit1 (x ^^^ y) = rep n bit1 x ^^^ rep n bit1 y := by
  induction n with
  | zero => rfl
  | succ n ih => simp only [rep]; rw [ih, bit1_xor]
theorem bit1_zero : bit1 0#32 = 0#32 := by decide
theorem rep_zero (n : Nat) : rep n bit1 0#32 = 0#32 := by
  induction n with
  | zero => rfl
  | succ n ih => simp only [rep]; rw [ih, bit1_zero]
theorem rep_add (m n : Nat) (x : BitVec 32) : rep (m + n) bit1 x = rep m bit1 (rep n bit1 x) := by
  induction m with
  | zero => simp [rep]
  | succ m ih => rw [Nat.succ_add]; simp only [rep]; rw [ih]
/-- A step can be taken back: no two words go to one. -/
theorem bit1_eq_zero {x : BitVec 32} (h : bit1 x = 0#32) : x = 0#32 := by
  rw [bit1_eq] at h
  unfold bit1' at h
  have hz := BitVec.xor_eq_zero_iff.1 h
  cases hb : x.getLsbD 0
  · rw [hb] at hz
    simp at hz
    apply BitVec.eq_of_getLsbD_eq
    intro i hi
    rcases Nat.eq_zero_or_pos i with h0 | h0
    · subst h0; simpa using hb
    · have := congrArg (fun v => BitVec.getLsbD v (i - 1)) hz
      simp [show 1 + (i - 1) = i by omega] at this
      simpa using this
  · rw [hb] at hz
    have := congrArg (fun v => BitVec.getLsbD v 31) hz
    simp at this
theorem rep_eq_zero (n : Nat) {x : BitVec 32} (h : rep n bit1 x = 0#32) : x = 0#32 := by
  induction n with
  | zero => exact h
  | succ n ih => exact ih (bit1_eq_zero h)

/-! ### The table's step is four of the bits' -/
theorem rep_low (n : Nat) (x : BitVec 32) (h : ∀ i, i < n → x.getLsbD i = false) : rep n bit1 x = x >>> n := by
  induction n with
  | zero => simp [rep]
  | succ n ih =>
    simp only [rep]
    rw [ih fun i hi => h i (by omega), bit1_eq]
    unfold bit1'
    have h0 : (x >>> n).getLsbD 0 = false := by simpa using h n (by omega)
    rw [h0]
    simp [BitVec.shiftRight_add]
theorem nib_eq : ∀ m : Fin 16, rep 4 bit1 (BitVec.ofNat 32 m.val) = nib m.val := by decide
theorem half_eq (r : BitVec 32) : half r = rep 4 bit1 r := by
  have hlo : r &&& 15#32 = BitVec.ofNat 32 (r.toNat % 16) := by
    apply BitVec.eq_of_toNat_eq
    rw [BitVec.toNat_and, show BitVec.toNat 15#32 = 15 from rfl, nat_mask4, BitVec.toNat_ofNat]
    omega
  have hr : r = (r &&& 15#32) ^^^ (r &&& ~~~ 15#32) := by
    apply BitVec.eq_of_getLsbD_eq
    intro i hi
    simp only [BitVec.getLsbD_xor, BitVec.getLsbD_and, BitVec.getLsbD_not, hi, decide_true, Bool.true_and]
    cases r.getLsbD i <;> cases (15#32).getLsbD i <;> rfl
  have h4 : ∀ i, i < 4 → (~~~ 15#32).getLsbD i = false := by decide
  have hhi : (r &&& ~~~ 15#32) >>> 4 = r >>> 4 := by
    apply BitVec.eq_of_getLsbD_eq
    intro i hi
    rw [BitVec.getLsbD_ushiftRight, BitVec.getLsbD_ushiftRight, BitVec.getLsbD_and]
    have : ∀ i, i < 32 → (~~~ 15#32).getLsbD (4 + i) = decide (4 + i < 32) := by decide
    rw [this i hi]
    by_cases h : 4 + i < 32
    · simp [h]
    · rw [BitVec.getLsbD_of_ge _ _ (by omega)]; simp
  unfold half
  conv => rhs; rw [hr]
  rw [rep_xor, hlo, rep_low 4 (r &&& ~~~ 15#32) (fun i hi => by rw [BitVec.getLsbD_and, h4 i hi, Bool.and_false]), hhi]
  congr 1
  exact (nib_eq ⟨r.toNat % 16, Nat.mod_lt _ (by decide)⟩).symm
theorem byteT_eq (r : BitVec 32) (c : UInt8) : byteT r c = byteB r c := by
  unfold byteT byteB
  rw [half_eq, half_eq, ← rep_add]
theorem foldl_byteT (l : List UInt8) (r : BitVec 32) : l.foldl byteT r = l.foldl byteB r := by
  rw [show byteT = byteB from funext fun r => funext fun c => byteT_eq r c]

/-! ### Laws -/
theorem more_nil (s : BitVec 32) : more s [] = s := by simp [more]
theorem more_append (s : BitVec 32) (a b : List UInt8) : more s (a ++ b) = more (more s a) b := by
  unfold more
  rw [List.foldl_append, BitVec.not_not]
theorem fold_xor (l : List UInt8) (r d : BitVec 32) : l.foldl byteB (r ^^^ d) = l.foldl byteB r ^^^ rep (8 * l.length) bit1 d := by
  induction l generalizing r d with
  | nil => rfl
  | cons c l ih =>
    simp only [List.foldl_cons, List.length_cons]
    have h : byteB (r ^^^ d) c = byteB r c ^^^ rep 8 bit1 d := by
      unfold byteB
      rw [show r ^^^ d ^^^ z8 c = (r ^^^ z8 c) ^^^ d from by ac_rfl, rep_xor]
    rw [h, ih, ← rep_add, Nat.mul_succ]
def bitAt (j : Nat) : UInt8 := (1 : UInt8) <<< UInt8.ofNat j
theorem z8_bit : ∀ j : Fin 8, rep 8 bit1 (z8 (bitAt j.val)) = rep (8 - j.val) bit1 1#32 := by decide +kernel
theorem z8_xor (a b : UInt8) : z8 (a ^^^ b) = z8 a ^^^ z8 b := by
  unfold z8
  apply BitVec.eq_of_getLsbD_eq
  intro i hi
  simp [BitVec.getLsbD_setWidth, UInt8.toBitVec_xor, BitVec.getLsbD_xor]
/-- One bit of bytes turned. -/
def flip (l : List UInt8) (k : Nat) : List UInt8 := l.modify (k / 8) (· ^^^ bitAt (k % 8))
theorem flip_length (l : List UInt8) (k : Nat) : (flip l k).length = l.length := by simp [flip]
theorem fold_flip (l : List UInt8) (r : BitVec 32) (k : Nat) (hk : k < 8 * l.length) : (flip l k).foldl byteB r = l.foldl byteB r ^^^ rep (8 * l.length - k) bit1 1#32 := by
  induction l generalizing r k with
  | nil => simp at hk
  | cons c l ih =>
    by_cases h8 : k < 8
    · have h0 : k / 8 = 0 := by omega
      have h1 : k % 8 = k := by omega
      have hf : flip (c :: l) k = (c ^^^ bitAt k) :: l := by simp [flip, h0, h1]
      have hb : byteB r (c ^^^ bitAt k) = byteB r c ^^^ rep (8 - k) bit1 1#32 := by
        unfold byteB
        rw [z8_xor, ← BitVec.xor_assoc, rep_xor]
        rw [z8_bit ⟨k, h8⟩]
      rw [hf]
      simp only [List.foldl_cons, List.length_cons]
      rw [hb, fold_xor, ← rep_add]
      congr 2
      omega
    · have hf : flip (c :: l) k = c :: flip l (k - 8) := by
        have h0 : k / 8 = (k - 8) / 8 + 1 := by omega
        have h1 : k % 8 = (k - 8) % 8 := by omega
        simp [flip, h0, h1]
      rw [hf]
      simp only [List.foldl_cons, List.length_cons]
      rw [ih _ _ (by simp only [List.length_cons] at hk; omega)]
      congr 2
      omega
theorem rep_pow : ∀ i : Fin 32, rep i.val bit1 (BitVec.ofNat 32 (2 ^ i.val)) = 1#32 := by decide +kernel
theorem fold_flip_at (l : List UInt8) (r : BitVec 32) (k i : Nat) (hi : i < 32) (hk : k + i < 8 * l.length) :
    (flip l (k + i)).foldl byteB r = l.foldl byteB r ^^^ rep (8 * l.length - k) bit1 (BitVec.ofNat 32 (2 ^ i)) := by
  rw [fold_flip l r (k + i) hk, show 8 * l.length - k = (8 * l.length - (k + i)) + i by omega, rep_add _ i, rep_pow ⟨i, hi⟩]
theorem fold_lin (a b c x : List UInt8) (r s t : BitVec 32) (ha : a.length = x.length) (hb : b.length = x.length) (hc : c.length = x.length)
    (hx : ∀ i, i < x.length → x.getD i 0 = a.getD i 0 ^^^ b.getD i 0 ^^^ c.getD i 0) :
    x.foldl byteB (r ^^^ s ^^^ t) = a.foldl byteB r ^^^ b.foldl byteB s ^^^ c.foldl byteB t := by
  induction x generalizing a b c r s t with
  | nil =>
    simp at ha hb hc
    subst ha hb hc
    rfl
  | cons y x ih =>
    obtain ⟨a0, a, rfl⟩ := List.exists_cons_of_length_eq_add_one ha
    obtain ⟨b0, b, rfl⟩ := List.exists_cons_of_length_eq_add_one hb
    obtain ⟨c0, c, rfl⟩ := List.exists_cons_of_length_eq_add_one hc
    have h0 := hx 0 (by simp)
    simp at h0
    have hstep : byteB (r ^^^ s ^^^ t) y = byteB r a0 ^^^ byteB s b0 ^^^ byteB t c0 := by
      unfold byteB
      rw [h0, z8_xor, z8_xor, ← rep_xor, ← rep_xor]
      congr 1
      ac_rfl
    simp only [List.foldl_cons]
    rw [hstep]
    refine ih a b c _ _ _ (by simpa using ha) (by simpa using hb) (by simpa using hc) fun i hi => ?_
    have := hx (i + 1) (by simpa using hi)
    simpa using this
theorem more_lin (a b c x : List UInt8) (ha : a.length = x.length) (hb : b.length = x.length) (hc : c.length = x.length)
    (hx : ∀ i, i < x.length → x.getD i 0 = a.getD i 0 ^^^ b.getD i 0 ^^^ c.getD i 0) : more 0#32 x = more 0#32 a ^^^ more 0#32 b ^^^ more 0#32 c := by
  unfold more
  have := fold_lin a b c x (~~~ 0#32) (~~~ 0#32) (~~~ 0#32) ha hb hc hx
  rw [show ~~~ 0#32 ^^^ ~~~ 0#32 ^^^ ~~~ 0#32 = ~~~ 0#32 by decide] at this
  show ~~~ List.foldl byteB (~~~ 0#32) x = _
  rw [this]
  apply BitVec.eq_of_getLsbD_eq
  intro i hi
  simp [hi]
/-- A word's bytes, the lowest first. -/
def le4 (s : BitVec 32) : List UInt8 := [⟨s.setWidth 8⟩, ⟨(s >>> 8).setWidth 8⟩, ⟨(s >>> 16).setWidth 8⟩, ⟨(s >>> 24).setWidth 8⟩]

theorem xor_right {a b c : BitVec 32} (h : b = c) : a ^^^ b = a ^^^ c := by rw [h]
theorem le4_fold (r s : BitVec 32) : (le4 s).foldl byteB r = rep 32 bit1 (r ^^^ s) := by
  have h : (le4 s).foldl byteB r = (le4 0#32).foldl byteB r ^^^ (le4 s).foldl byteB 0#32 := by
    have := fold_lin (le4 0#32) (le4 s) (le4 0#32) (le4 s) r 0#32 0#32 rfl rfl rfl (by
      intro i hi
      have h0 : ∀ i, i < 4 → (le4 0#32).getD i 0 = 0 := by decide
      rw [h0 i hi]; simp)
    have h0 : (le4 0#32).foldl byteB 0#32 = 0#32 := by decide +kernel
    rw [h0] at this
    simpa using this
  have hz : ∀ r, (le4 0#32).foldl byteB r = rep 32 bit1 r := by
    intro r
    have := fold_xor (le4 0#32) 0#32 r
    have h0 : (le4 0#32).foldl byteB 0#32 = 0#32 := by decide +kernel
    rw [h0] at this
    simpa [le4] using this
  have hs : (le4 s).foldl byteB 0#32 = rep 32 bit1 s := by
    have key : ∀ i : Fin 32, (le4 (BitVec.ofNat 32 (2 ^ i.val))).foldl byteB 0#32 = rep 32 bit1 (BitVec.ofNat 32 (2 ^ i.val)) := by decide +kernel
    have lin : ∀ x y, (le4 (x ^^^ y)).foldl byteB 0#32 = (le4 x).foldl byteB 0#32 ^^^ (le4 y).foldl byteB 0#32 := by
      intro x y
      have := fold_lin (le4 x) (le4 y) (le4 0#32) (le4 (x ^^^ y)) 0#32 0#32 0#32 rfl rfl rfl (by
        intro i hi
        have h0 : ∀ i, i < 4 → (le4 0#32).getD i 0 = 0 := by decide
        rw [h0 i hi]
        have h4 : i = 0 ∨ i = 1 ∨ i = 2 ∨ i = 3 := by simp [le4] at hi; omega
        rcases h4 with rfl | rfl | rfl | rfl <;> simp [le4, ← UInt8.toBitVec_inj, BitVec.ushiftRight_xor_distrib])
      have h0 : (le4 0#32).foldl byteB 0#32 = 0#32 := by decide +kernel
      rw [h0] at this
      simpa using this
    have all : ∀ n, n ≤ 32 → (le4 (s &&& BitVec.ofNat 32 (2 ^ n - 1))).foldl byteB 0#32 = rep 32 bit1 (s &&& BitVec.ofNat 32 (2 ^ n - 1)) := by
      intro n hn
      induction n with
      | zero => simp; decide +kernel
      | succ n ih =>
        have hsplit : s &&& BitVec.ofNat 32 (2 ^ (n + 1) - 1) = (s &&& BitVec.ofNat 32 (2 ^ n - 1)) ^^^ (if s.getLsbD n then BitVec.ofNat 32 (2 ^ n) else 0#32) := by
          have hm : ∀ n : Fin 32, ∀ i : Fin 32, (BitVec.ofNat 32 (2 ^ (n.val + 1) - 1)).getLsbD i.val = decide (i.val ≤ n.val) ∧ (BitVec.ofNat 32 (2 ^ n.val - 1)).getLsbD i.val = decide (i.val < n.val) ∧ (BitVec.ofNat 32 (2 ^ n.val)).getLsbD i.val = decide (i.val = n.val) := by decide +kernel
          apply BitVec.eq_of_getLsbD_eq
          intro i hi
          obtain ⟨m1, m2, m3⟩ := hm ⟨n, by omega⟩ ⟨i, hi⟩
          simp only at m1 m2 m3
          rw [BitVec.getLsbD_xor, BitVec.getLsbD_and, BitVec.getLsbD_and, m1, m2]
          by_cases hin : i = n
          · subst hin
            cases hb : s.getLsbD i
            · simp
            · simp only [if_true]; rw [m3]; simp
          · cases hb : s.getLsbD n
            · have : decide (i ≤ n) = decide (i < n) := by
                by_cases h : i < n
                · simp [h]; omega
                · simp [h]; omega
              simp [this]
            · have : decide (i ≤ n) = decide (i < n) := by
                by_cases h : i < n
                · simp [h]; omega
                · simp [h]; omega
              simp only [if_true]; rw [m3]; simp [this, hin]
        rw [hsplit, lin, rep_xor, ih (by omega)]
        refine xor_right ?_
        cases hb : s.getLsbD n
        · simp; decide +kernel
        · have k := key ⟨n, by omega⟩
          dsimp only at k
          rw [if_pos rfl]
          exact k
    have := all 32 (by omega)
    have e : s &&& BitVec.ofNat 32 (2 ^ 32 - 1) = s := by
      rw [show BitVec.ofNat 32 (2 ^ 32 - 1) = BitVec.allOnes 32 from by decide]; exact BitVec.and_allOnes
    rwa [e] at this
  rw [h, hz, hs, ← rep_xor]
/-- P1.1: bytes with their own sum behind them. -/
theorem more_residue (s : BitVec 32) : more s (le4 s) = 0x2144df1c#32 := by
  unfold more
  have hs : ~~~ s ^^^ s = BitVec.allOnes 32 := by
    apply BitVec.eq_of_getLsbD_eq
    intro i hi
    rw [BitVec.getLsbD_xor, BitVec.getLsbD_not, BitVec.getLsbD_allOnes]
    cases s.getLsbD i <;> simp [hi]
  rw [le4_fold, hs]
  decide +kernel

theorem le4_0 (s : BitVec 32) : U s % 256 = V8 ⟨s.setWidth 8⟩ := by
  unfold U V8
  rw [← UInt8.toNat_toBitVec]
  simp [BitVec.toNat_setWidth]
theorem le4_k (s : BitVec 32) (k : Nat) (n : Int) (h : n = 2 ^ k) : U s / n % 256 = V8 ⟨(s >>> k).setWidth 8⟩ := by
  rw [shr_bv s k n h, le4_0]
theorem le4_bytes (s : BitVec 32) : #[Value.int .u8 (U s % 256), Value.int .u8 (U s / 256 % 256), Value.int .u8 (U s / 65536 % 256), Value.int .u8 (U s / 16777216)] = ((le4 s).map B8).toArray := by
  have h3 : U s / (16777216 : Int) = U s / (16777216 : Int) % 256 := by have := U_lt s; omega
  rw [h3, le4_0, le4_k s 8 _ (by decide), le4_k s 16 _ (by decide), le4_k s 24 _ (by decide)]
  rfl
theorem residue_num : U 0x2144df1c#32 = 558161692 := by decide

theorem xor_b8 (x y : UInt8) : bits .xor .u8 (V8 x) (V8 y) = V8 (x ^^^ y) := by
  unfold V8
  have hx := x.toNat_lt
  have hy := y.toNat_lt
  rw [u8_xor_nat _ _ hx hy, UInt8.toNat_xor]

theorem V8_bitAt : ∀ j : Fin 8, (2 : Int) ^ j.val % 256 = V8 (bitAt j.val) := by decide
theorem xor_bit (b : UInt8) (j : Nat) (hj : j < 8) : bits .xor .u8 (V8 b) ((2 : Int) ^ j % 256) = V8 (b ^^^ bitAt j) := by
  rw [V8_bitAt ⟨j, hj⟩, xor_b8]
theorem flip_set (l : List UInt8) (q : Nat) (hq : q < 8 * l.length) : l.set (q / 8) (l.getD (q / 8) 0 ^^^ bitAt (q % 8)) = flip l q := by
  unfold flip
  have h : q / 8 < l.length := by omega
  apply List.ext_getElem?
  intro i
  rw [List.getElem?_set, List.getElem?_modify]
  by_cases hi : q / 8 = i
  · subst hi; simp [List.getD, h]
  · simp [hi]
/-- One bit more is turned. -/
theorem tell_step (ds bs : List UInt8) (n p k W : Nat) (hn : ds.length = n) (hk : k < 32) (hin : p + k < 8 * n) (hW : W < 2 ^ k)
    (hf : ds.foldl byteB (~~~ 0#32) = bs.foldl byteB (~~~ 0#32) ^^^ rep (8 * n - p) bit1 (BitVec.ofNat 32 W)) :
    (flip ds (p + k)).foldl byteB (~~~ 0#32) = bs.foldl byteB (~~~ 0#32) ^^^ rep (8 * n - p) bit1 (BitVec.ofNat 32 (W + 2 ^ k)) := by
  subst hn
  rw [fold_flip_at ds _ p k hk hin, hf, BitVec.xor_assoc, ← rep_xor]
  congr 2
  apply BitVec.eq_of_toNat_eq
  have h32 : (2 : Nat) ^ k * 2 ≤ 2 ^ 32 := by
    rw [← Nat.pow_succ]; exact Nat.pow_le_pow_right (by decide) (by omega)
  rw [BitVec.toNat_xor, BitVec.toNat_ofNat, BitVec.toNat_ofNat, BitVec.toNat_ofNat, Nat.mod_eq_of_lt (by omega), Nat.mod_eq_of_lt (by omega), Nat.mod_eq_of_lt (by omega)]
  have h := Nat.two_pow_add_eq_or_of_lt hW 1
  apply Nat.eq_of_testBit_eq
  intro i
  rw [Nat.testBit_xor, Nat.testBit_two_pow]
  rw [Nat.add_comm W, show 2 ^ k + W = 2 ^ k * 1 + W by omega, h, Nat.testBit_or, Nat.mul_one, Nat.testBit_two_pow]
  by_cases hi : k = i
  · subst hi
    rw [Nat.testBit_lt_two_pow hW]; simp
  · simp [hi]
theorem tell_end (ds bs : List UInt8) (n p W : Nat) (hW : W < 2 ^ 32)
    (hf : ds.foldl byteB (~~~ 0#32) = bs.foldl byteB (~~~ 0#32) ^^^ rep (8 * n - p) bit1 (BitVec.ofNat 32 W)) : (more 0#32 bs ≠ more 0#32 ds) ↔ W ≠ 0 := by
  have h1 : (more 0#32 bs = more 0#32 ds) ↔ rep (8 * n - p) bit1 (BitVec.ofNat 32 W) = 0#32 := by
    unfold more
    rw [hf]
    constructor
    · intro h
      have h' : bs.foldl byteB (~~~ 0#32) = bs.foldl byteB (~~~ 0#32) ^^^ rep (8 * n - p) bit1 (BitVec.ofNat 32 W) := by
        have := congrArg (fun z => ~~~ z) h
        simp only [BitVec.not_not] at this
        exact this
      have h2 := congrArg (fun z => bs.foldl byteB (~~~ 0#32) ^^^ z) h'
      simp only [BitVec.xor_self, ← BitVec.xor_assoc, BitVec.zero_xor] at h2
      exact h2.symm
    · intro h; rw [h, BitVec.xor_zero]
  rw [ne_eq, h1]
  constructor
  · intro h h0; subst h0; exact h (rep_zero _)
  · intro h h0
    have := rep_eq_zero _ h0
    have h3 := congrArg BitVec.toNat this
    simp at h3
    omega

end Go.Proofs.Ytomncfiklkhfjaa.Crc
