/- What the laws of the plant share: 'full', 'same', a plant within a law (St), rows held beside it (Held). -/
import Derived.Test.YtloffgoenaomkaaDoorFold5
import Derived.Test.YtloffgoenaomkaaDoorPlNew
import Derived.Test.YtloffgoenaomkaaDoorPlBoot
import Derived.WalkLawsBesides
import Derived.Stop.BytesEq
import Derived.Test.YtloffgoenaomkaaDoorFold0
import Derived.Laws.BitsAllLaws
import Derived.Laws.BitsLemmas
import Derived.WalkSpells
import Derived.BigQuiet
import Derived.Deep.QuietTactic
import Derived.Deep.RegionHeld3
import Derived.Deep.DrawnRows
import Derived.Test.YtloffgoenaomkaaDoorRows
import Derived.WalkKit
import Derived.Lib.Hide
import Derived.Test.YtloffgoenaomkaaDoorPlRead
namespace Go.Proofs.YtloffgoenaomkaaDoor.Pl
open Go Go.RowKit Mem
theorem strTy : Tryd.prog.underlying 9 = some .string := Tryd.underlying9
/-- A sector of one byte. -/
def fullB (c : UInt8) : List UInt8 := List.replicate 64 c
theorem fullB_len (c : UInt8) : (fullB c).length = 64 := by simp [fullB]
theorem fullB_set (c : UInt8) (k : Nat) (h : k < 64) : (List.replicate k c ++ List.replicate (64 - k) (0 : UInt8)).set k c = List.replicate (k + 1) c ++ List.replicate (64 - (k + 1)) 0 := by
  refine List.ext_getElem? fun i => ?_
  rw [List.getElem?_set]
  simp only [List.length_append, List.length_replicate, List.getElem?_append, List.getElem?_replicate]
  rcases Nat.lt_trichotomy i k with h1 | h1 | h1
  · rw [if_neg (by omega), if_pos h1, if_pos h1, if_pos (by omega), if_pos (by omega)]
  · subst h1
    rw [if_pos rfl, if_pos (by omega), if_pos (by omega), if_pos (by omega)]
  · have e : (i - k < 64 - k) ↔ (i - (k + 1) < 64 - (k + 1)) := by omega
    have h2 : ¬ k = i := by omega
    have h3 : ¬ i < k := by omega
    have h4 : ¬ i < k + 1 := by omega
    simp only [h2, h3, h4, if_false, e]
/-- The call gives back a sector of its own. -/
def RetF (w : World) (b : List UInt8) (e : Ending) (w' : World) : Prop :=
  ∃ g, e = .returned (.slice (some ⟨g, 0, none⟩) 64 64) ∧ Own w' w.heap.size 5 (some ⟨g, 0, none⟩) 64 64 b ∧ Below w.heap.size w w'
def FullR (w : World) (c : UInt8) (iv : Value) (wr : World) : Prop :=
  ∃ k : Nat, k ≤ 64 ∧ iv = .int .i64 (k : Int) ∧ Below w.heap.size w wr ∧ Blk wr w.heap.size 5 (cellsOf (List.replicate k c ++ List.replicate (64 - k) 0))
/-- A plant within a law that began in a world of B blocks; so many calls have been made. -/
structure St (B : Nat) (w : World) (F : Nat → Prop) (a : Nat) (p : PM) (n : Nat) : Prop where
  at_ : PlantAt w F a p
  ok : p.Ok
  lt : ∀ g, F g → B ≤ g ∧ g < w.heap.size
  steps : p.steps ≤ n
  waits : p.waits.length ≤ n
/-- Bytes beside a plant. -/
def Held (w : World) (F : Nat → Prop) (A : Option Addr) (bs : List UInt8) : Prop := BAt w A bs ∧ ∀ ad, A = some ad → ¬ F ad.block ∧ ad.block < w.heap.size
section
variable {B : Nat} {w w' : World} {F G : Nat → Prop} {a c : Nat} {p q : PM} {n : Nat} {A : Option Addr} {bs : List UInt8}
theorem addr_block (ad : Addr) (k : Nat) : (ad.add k).block = ad.block := by unfold Addr.add; split <;> rfl
theorem Held.keep (h : Held w F A bs) (hk : ∀ ad, A = some ad → w'.heap[ad.block]? = w.heap[ad.block]?) (hs : w.heap.size ≤ w'.heap.size) (hG : ∀ ad, A = some ad → ¬ F ad.block → ad.block < w.heap.size → ¬ G ad.block) : Held w' G A bs :=
  ⟨h.1.keep fun ad k v hA _ hc => by
    have := hk ad hA
    simp only [World.cell?, addr_block] at hc ⊢
    rw [this]
    exact hc, fun ad hA => ⟨hG ad hA (h.2 ad hA).1 (h.2 ad hA).2, Nat.lt_of_lt_of_le (h.2 ad hA).2 hs⟩⟩
theorem Held.mods (h : Held w F A bs) (hm : Mods w.heap.size F w w') : Held w' (Grow F w w') A bs :=
  h.keep (fun ad hA => hm.keep _ (h.2 ad hA).2 (h.2 ad hA).1) hm.size fun ad _ hn hlt hg => by
    rcases hg with hg | hg
    · exact hn hg
    · omega
theorem Held.below (h : Held w F A bs) (hb : Below w.heap.size w w') : Held w' F A bs :=
  h.keep (fun ad hA => hb.block _ (h.2 ad hA).2) hb.size fun _ad _ hn _ => hn
theorem Held.of_own {base : Nat} {m k : Nat} (h : Own w base 5 A m k bs) (hF : ∀ g, F g → g < base) : Held w F A bs := ⟨h.bat, fun ad hA => by
  rcases h.form with ⟨h, _⟩ | ⟨g, h, h1, h2⟩
  · rw [h] at hA; cases hA
  · rw [h] at hA
    injection hA with hA
    subst hA
    exact ⟨fun hf => by have := hF g hf; omega, h2⟩⟩
theorem Held.nil_ (w : World) (F : Nat → Prop) : Held w F none [] := ⟨BAt.nil_ _ _, fun ad h => by cases h⟩
theorem St.low (h : St B w F a p n) (hn : n ≤ 1000000000) : p.Low := ⟨by have := h.steps; omega, by have := h.waits; omega⟩
theorem St.below (h : St B w F a p n) (hb : Below w.heap.size w w') : St B w' F a p n := ⟨h.at_.below hb, h.ok, fun g hg => ⟨(h.lt g hg).1, Nat.lt_of_lt_of_le (h.lt g hg).2 hb.size⟩, h.steps, h.waits⟩
theorem St.next (h : St B w F a p n) (hB : B ≤ w.heap.size) (hp : PlantAt w' (Grow F w w') a q) (hm : Mods w.heap.size F w w') (hok : q.Ok) (h1 : q.steps ≤ p.steps + 1) (h2 : q.waits.length ≤ p.waits.length + 1) : St B w' (Grow F w w') a q (n + 1) :=
  ⟨hp, hok, fun g hg => by
    rcases hg with hg | hg
    · exact ⟨(h.lt g hg).1, Nat.lt_of_lt_of_le (h.lt g hg).2 hm.size⟩
    · exact ⟨Nat.le_trans hB hg.1, hg.2⟩, by have := h.steps; omega, by have := h.waits; omega⟩
/-- What such a call leaves. -/
def Gone (B : Nat) (w : World) (F : Nat → Prop) (a : Nat) (q : PM) (n : Nat) (w' : World) : Prop := St B w' (Grow F w w') a q (n + 1) ∧ Mods w.heap.size F w w'
theorem St.bel {W : World} (h : St B w F a p n) (hW : Below B W w) (hB : B ≤ w.heap.size) (hm : Mods w.heap.size F w w') : Below B W w' :=
  hW.trans ((hm.mono hB fun _ _ hf => hf).below fun k hk hf => by have := (h.lt k hf).1; omega)
theorem St.append (h : St B w F a p n) (hB : B ≤ w.heap.size) (hn : n ≤ 1000000000) (i : Int) (A : Option Addr) (m cap : Nat) (b : List UInt8) (hb : BAt w A b) (hl : b.length = m) :
    Calls Tryd.prog 28 #[.pointer (some ⟨a, 0, none⟩), .int .i64 i, .slice A m cap] w fun e w' => e = .returned (.tuple #[.int .i64 (p.append i b).2.1, .int .i64 (p.append i b).2.2]) ∧ Gone B w F a (p.append i b).1 n w' :=
  (append_any h.at_ h.ok (h.low hn) i A m cap b hb hl).mono fun _e _w' ⟨he, hp, hm⟩ => ⟨he, h.next hB hp hm (h.ok.append i b) (PM.append_low p i b).1 (PM.append_low p i b).2, hm⟩
theorem St.flush (h : St B w F a p n) (hB : B ≤ w.heap.size) (hn : n ≤ 1000000000) (i : Int) :
    Calls Tryd.prog 29 #[.pointer (some ⟨a, 0, none⟩), .int .i64 i] w fun e w' => e = .returned (.int .i64 (p.flush i).2) ∧ Gone B w F a (p.flush i).1 n w' :=
  (flush_any h.at_ h.ok (h.low hn) i).mono fun _e _w' ⟨he, hp, hm⟩ => ⟨he, h.next hB hp hm (h.ok.flush i) (PM.flush_low p i).1 (Nat.le_succ_of_le (PM.flush_low p i).2), hm⟩
theorem St.setFuse (h : St B w F a p n) (hB : B ≤ w.heap.size) (i : Int) (hi : i < 9223372036854775808) :
    Calls Tryd.prog 32 #[.pointer (some ⟨a, 0, none⟩), .int .i64 i] w fun e w' => e = .returned (.tuple #[]) ∧ Gone B w F a (p.setFuse i) n w' :=
  (fuse_any h.at_ i).mono fun e w' ⟨he, hp, hm⟩ => ⟨he, h.next hB hp hm (h.ok.setFuse hi) (by rw [(PM.setFuse_low p i).1]; omega) (by rw [(PM.setFuse_low p i).2]; omega), hm⟩
theorem St.boot (h : St B w F a p n) (hB : B ≤ w.heap.size) (hn : n ≤ 1000000000) (AK : Option Addr) (nk ck : Nat) (keep : List Int) (hk : IAt w AK keep) (hkl : keep.length = nk) (hkn : keep ≠ [] → ∀ ad, AK = some ad → ¬ F ad.block) (hnk : nk ≤ 9223372036854775807) :
    Calls Tryd.prog 33 #[.pointer (some ⟨a, 0, none⟩), .slice AK nk ck] w fun e w' => e = .returned (.tuple #[]) ∧ Gone B w F a (p.boot keep) n w' :=
  (boot_any h.at_ h.ok (h.low hn) AK nk ck keep hk hkl hkn hnk).mono fun e w' ⟨he, hp, hm⟩ => ⟨he, h.next hB (hp.mono fun g _ hg => .inl hg) hm (h.ok.boot keep) (by rw [(PM.boot_low p keep).1]; omega) (by rw [(PM.boot_low p keep).2]; simp), hm⟩
theorem St.read (h : St B w F a p n) (hn : n ≤ 1000000000) (i k : Int) :
    Calls Tryd.prog 26 #[.pointer (some ⟨a, 0, none⟩), .int .i64 i, .int .i64 k] w fun e w' => ∃ A m cap, e = .returned (.tuple #[.slice A m cap, .int .i64 (p.read i k).2]) ∧ m = ((p.read i k).1.getD []).length ∧ Held w' F A ((p.read i k).1.getD []) ∧ Below w.heap.size w w' :=
  (read_any h.at_ h.ok (h.low hn) i k).mono fun _e _w' ⟨A, m, cap, he, ho, hb⟩ => ⟨A, m, cap, he, ho.len.symm, Held.of_own ho fun g hg => (h.lt g hg).2, hb⟩
theorem St.len (h : St B w F a p n) (hn : n ≤ 1000000000) (i : Int) :
    Calls Tryd.prog 27 #[.pointer (some ⟨a, 0, none⟩), .int .i64 i] w fun e w' => e = .returned (.tuple #[.int .i64 (p.len i).1, .int .i64 (p.len i).2]) ∧ Below w.heap.size w w' :=
  (len_any h.at_ h.ok (h.low hn) i).mono fun e w' ⟨he, k, hw⟩ => ⟨he, by rw [hw]; exact below_drewN (Below.refl _ _) k⟩
theorem St.new {o : PM} (h : PlantAt w' (New w w') a o) (hB : B ≤ w.heap.size) {zs1 zs2 : List Int} (hn : newM zs1 zs2 = some o) : St B w' (New w w') a o 0 := by
  obtain ⟨h1, _, h3, h4, _⟩ := newM_ok hn
  exact ⟨h, h1, fun g hg => ⟨Nat.le_trans hB hg.1, hg.2⟩, by rw [h3]; omega, by rw [h4]; simp⟩
end
end Go.Proofs.YtloffgoenaomkaaDoor.Pl
/- CRC-32 in plain terms: the step by the table of sixteen sums, and the step bit by bit, over BitVec 32; the rules that bring the walk's integers to them. No program. -/
namespace Go.Proofs.YtloffgoenaomkaaDoor.Crc
open Go Mem

def z8 (c : UInt8) : BitVec 32 := c.toBitVec.setWidth 32
def nib (i : Nat) : BitVec 32 := #[0x00000000#32, 0x1db71064#32, 0x3b6e20c8#32, 0x26d930ac#32, 0x76dc4190#32, 0x6b6b51f4#32, 0x4db26158#32, 0x5005713c#32,
  0xedb88320#32, 0xf00f9344#32, 0xd6d6a3e8#32, 0xcb61b38c#32, 0x9b64c2b0#32, 0x86d3d2d4#32, 0xa00ae278#32, 0xbdbdf21c#32].getD i 0
def half (r : BitVec 32) : BitVec 32 := nib (r.toNat % 16) ^^^ (r >>> 4)
def byteT (r : BitVec 32) (c : UInt8) : BitVec 32 := half (half (r ^^^ z8 c))
def bit1 (r : BitVec 32) : BitVec 32 := if r.toNat % 2 = 1 then (r >>> 1) ^^^ 0xedb88320#32 else r >>> 1
def rep : Nat → (BitVec 32 → BitVec 32) → BitVec 32 → BitVec 32
  | 0, _, x => x
  | n + 1, f, x => f (rep n f x)
def byteB (r : BitVec 32) (c : UInt8) : BitVec 32 := rep 8 bit1 (r ^^^ z8 c)
/-- 'More', by the bits. -/
def more (s : BitVec 32) (l : List UInt8) : BitVec 32 := ~~~ (l.foldl byteB (~~~ s))

theorem z8_toNat (c : UInt8) : (z8 c).toNat = c.toNat := by
  have : c.toNat < 256 := c.toNat_lt
  simp [z8, BitVec.toNat_setWidth]

/-! ### The walk's integers: a word is 'U x', so that simp does not take it apart -/
def U (x : BitVec 32) : Int := (x.toNat : Int)
def lo4 (x : BitVec 32) : Nat := x.toNat % 16
theorem lo4_lt (x : BitVec 32) : lo4 x < 16 := Nat.mod_lt _ (by decide)
theorem U_lt (x : BitVec 32) : 0 ≤ U x ∧ U x < 4294967296 := ⟨by unfold U; omega, by have := x.isLt; unfold U; omega⟩
theorem U_inj {x y : BitVec 32} : U x = U y ↔ x = y := by
  unfold U
  rw [Int.ofNat_inj, BitVec.toNat_inj]
theorem U_ofInt (n : Int) (h0 : 0 ≤ n) (h1 : n < 4294967296) : n = U (BitVec.ofInt 32 n) := by
  obtain ⟨m, rfl⟩ := Int.eq_ofNat_of_zero_le h0
  unfold U
  rw [ofInt_u32 m (by omega)]
theorem xor_bv (x y : BitVec 32) : bits .xor .u32 (U x) (U y) = U (x ^^^ y) := by
  unfold U; rw [u32_xor_nat _ _ x.isLt y.isLt, BitVec.toNat_xor]
theorem xor_z8 (x : BitVec 32) (c : UInt8) : bits .xor .u32 (U x) (V8 c % 4294967296) = U (x ^^^ z8 c) := by
  have h : (V8 c % 4294967296) = U (z8 c) := by
    have : c.toNat < 256 := c.toNat_lt
    unfold U V8; rw [z8_toNat]; omega
  rw [h, xor_bv]
theorem and_15 (x : BitVec 32) : bits .and .u32 (U x) 15 = (lo4 x : Int) := by
  have := u32_and_nat x.toNat 15 x.isLt (by decide)
  rw [show ((15 : Nat) : Int) = 15 from rfl] at this
  unfold U lo4
  rw [this, nat_mask4]
theorem shr_bv (y : BitVec 32) (k : Nat) (n : Int) (h : n = 2 ^ k) : U y / n = U (y >>> k) := by
  unfold U
  rw [BitVec.toNat_ushiftRight, Nat.shiftRight_eq_div_pow, h]
  simp
theorem xor_shr4 (x y : BitVec 32) : bits .xor .u32 (U x) (U y / (16 : Int)) = U (x ^^^ y >>> 4) := by
  rw [shr_bv y 4 16 (by decide), xor_bv]
theorem not_bv (x : BitVec 32) : bits .xor .u32 IntKind.u32.max (U x) = U (~~~ x) := by
  have h : IntKind.u32.max = U (BitVec.allOnes 32) := by decide
  rw [h, xor_bv, BitVec.allOnes_xor]

theorem shr1_bv (x : BitVec 32) : U x / (2 : Int) = U (x >>> 1) := shr_bv x 1 2 (by decide)
theorem xor_poly (x : BitVec 32) : bits .xor .u32 (U x) 3988292384 = U (x ^^^ 0xedb88320#32) := by
  have h : (3988292384 : Int) = U 0xedb88320#32 := by decide
  rw [h, xor_bv]
theorem bit1_odd {x : BitVec 32} (h : U x % 2 = 1) : bit1 x = (x >>> 1) ^^^ 0xedb88320#32 := by
  unfold bit1
  rw [if_pos]
  unfold U at h; omega
theorem bit1_even {x : BitVec 32} (h : ¬ U x % 2 = 1) : bit1 x = x >>> 1 := by
  unfold bit1
  rw [if_neg]
  unfold U at h; omega

/-! ### One bit at a time -/
def bit1' (r : BitVec 32) : BitVec 32 := (r >>> 1) ^^^ (if r.getLsbD 0 then 0xedb88320#32 else 0#32)
theorem bit1_eq (r : BitVec 32) : bit1 r = bit1' r := by
  unfold bit1 bit1'
  have h : r.getLsbD 0 = decide (r.toNat % 2 = 1) := by
    rw [BitVec.getLsbD, Nat.testBit_zero]
  rw [h]
  by_cases h2 : r.toNat % 2 = 1 <;> simp [h2]
theorem bit1_xor (x y : BitVec 32) : bit1 (x ^^^ y) = bit1 x ^^^ bit1 y := by
  rw [bit1_eq, bit1_eq, bit1_eq]
  unfold bit1'
  rw [BitVec.getLsbD_xor, BitVec.ushiftRight_xor_distrib]
  cases hx : x.getLsbD 0 <;> cases hy : y.getLsbD 0 <;> simp
  · ac_rfl
  · ac_rfl
  · rw [show ∀ p q c : BitVec 32, p ^^^ c ^^^ (q ^^^ c) = p ^^^ q ^^^ (c ^^^ c) from fun p q c => by ac_rfl, BitVec.xor_self, BitVec.xor_zero]
theorem rep_xor (n : Nat) (x y : BitVec 32) : rep n bit1 (x ^^^ y) = rep n bit1 x ^^^ rep n bit1 y := by
  induction n with
  | zero => rfl
  | succ n ih => simp only [rep]; rw [ih, bit1_xor]
theorem bit1_zero : bit1 0#32 = 0#32 := by decide
theorem rep_zero (n : Nat) : rep n bit1 0#32 = 0#32 := by
  induction n with
  | zero => rfl
  | succ n ih => simp only [rep]; rw [ih, bit1_zero]
theorem rep_add (m n : Nat) (x : BitVec 32) : rep (m + n) bit1 x = rep m bit1 (rep n bit1 x) := by
  induction m with
  | zero => simp [rep]
  | succ m ih => rw [Nat.succ_add]; simp only [rep]; rw [ih]
/-- A step can be taken back: no two words go to one. -/
theorem bit1_eq_zero {x : BitVec 32} (h : bit1 x = 0#32) : x = 0#32 := by
  rw [bit1_eq] at h
  unfold bit1' at h
  have hz := BitVec.xor_eq_zero_iff.1 h
  cases hb : x.getLsbD 0
  · rw [hb] at hz
    simp at hz
    apply BitVec.eq_of_getLsbD_eq
    intro i hi
    rcases Nat.eq_zero_or_pos i with h0 | h0
    · subst h0; simpa using hb
    · have := congrArg (fun v => BitVec.getLsbD v (i - 1)) hz
      simp [show 1 + (i - 1) = i by omega] at this
      simpa using this
  · rw [hb] at hz
    have := congrArg (fun v => BitVec.getLsbD v 31) hz
    simp at this
theorem rep_eq_zero (n : Nat) {x : BitVec 32} (h : rep n bit1 x = 0#32) : x = 0#32 := by
  induction n with
  | zero => exact h
  | succ n ih => exact ih (bit1_eq_zero h)

/-! ### The table's step is four of the bits' -/
theorem rep_low (n : Nat) (x : BitVec 32) (h : ∀ i, i < n → x.getLsbD i = false) : rep n bit1 x = x >>> n := by
  induction n with
  | zero => simp [rep]
  | succ n ih =>
    simp only [rep]
    rw [ih fun i hi => h i (by omega), bit1_eq]
    unfold bit1'
    have h0 : (x >>> n).getLsbD 0 = false := by simpa using h n (by omega)
    rw [h0]
    simp [BitVec.shiftRight_add]
theorem nib_eq : ∀ m : Fin 16, rep 4 bit1 (BitVec.ofNat 32 m.val) = nib m.val := by decide
theorem half_eq (r : BitVec 32) : half r = rep 4 bit1 r := by
  have hlo : r &&& 15#32 = BitVec.ofNat 32 (r.toNat % 16) := by
    apply BitVec.eq_of_toNat_eq
    rw [BitVec.toNat_and, show BitVec.toNat 15#32 = 15 from rfl, nat_mask4, BitVec.toNat_ofNat]
    omega
  have hr : r = (r &&& 15#32) ^^^ (r &&& ~~~ 15#32) := by
    apply BitVec.eq_of_getLsbD_eq
    intro i hi
    simp only [BitVec.getLsbD_xor, BitVec.getLsbD_and, BitVec.getLsbD_not, hi, decide_true, Bool.true_and]
    cases r.getLsbD i <;> cases (15#32).getLsbD i <;> rfl
  have h4 : ∀ i, i < 4 → (~~~ 15#32).getLsbD i = false := by decide
  have hhi : (r &&& ~~~ 15#32) >>> 4 = r >>> 4 := by
    apply BitVec.eq_of_getLsbD_eq
    intro i hi
    rw [BitVec.getLsbD_ushiftRight, BitVec.getLsbD_ushiftRight, BitVec.getLsbD_and]
    have : ∀ i, i < 32 → (~~~ 15#32).getLsbD (4 + i) = decide (4 + i < 32) := by decide
    rw [this i hi]
    by_cases h : 4 + i < 32
    · simp [h]
    · rw [BitVec.getLsbD_of_ge _ _ (by omega)]; simp
  unfold half
  conv => rhs; rw [hr]
  rw [rep_xor, hlo, rep_low 4 (r &&& ~~~ 15#32) (fun i hi => by rw [BitVec.getLsbD_and, h4 i hi, Bool.and_false]), hhi]
  congr 1
  exact (nib_eq ⟨r.toNat % 16, Nat.mod_lt _ (by decide)⟩).symm
theorem byteT_eq (r : BitVec 32) (c : UInt8) : byteT r c = byteB r c := by
  unfold byteT byteB
  rw [half_eq, half_eq, ← rep_add]
theorem foldl_byteT (l : List UInt8) (r : BitVec 32) : l.foldl byteT r = l.foldl byteB r := by
  rw [show byteT = byteB from funext fun r => funext fun c => byteT_eq r c]

/-! ### Laws -/
theorem more_nil (s : BitVec 32) : more s [] = s := by simp [more]
theorem more_append (s : BitVec 32) (a b : List UInt8) : more s (a ++ b) = more (more s a) b := by
  unfold more
  rw [List.foldl_append, BitVec.not_not]
theorem fold_xor (l : List UInt8) (r d : BitVec 32) : l.foldl byteB (r ^^^ d) = l.foldl byteB r ^^^ rep (8 * l.length) bit1 d := by
  induction l generalizing r d with
  | nil => rfl
  | cons c l ih =>
    simp only [List.foldl_cons, List.length_cons]
    have h : byteB (r ^^^ d) c = byteB r c ^^^ rep 8 bit1 d := by
      unfold byteB
      rw [show r ^^^ d ^^^ z8 c = (r ^^^ z8 c) ^^^ d from by ac_rfl, rep_xor]
    rw [h, ih, ← rep_add, Nat.mul_succ]
def bitAt (j : Nat) : UInt8 := (1 : UInt8) <<< UInt8.ofNat j
theorem z8_bit : ∀ j : Fin 8, rep 8 bit1 (z8 (bitAt j.val)) = rep (8 - j.val) bit1 1#32 := by decide +kernel
theorem z8_xor (a b : UInt8) : z8 (a ^^^ b) = z8 a ^^^ z8 b := by
  unfold z8
  apply BitVec.eq_of_getLsbD_eq
  intro i hi
  simp [BitVec.getLsbD_setWidth, UInt8.toBitVec_xor, BitVec.getLsbD_xor]
/-- One bit of bytes turned. -/
def flip (l : List UInt8) (k : Nat) : List UInt8 := l.modify (k / 8) (· ^^^ bitAt (k % 8))
theorem flip_length (l : List UInt8) (k : Nat) : (flip l k).length = l.length := by simp [flip]
theorem fold_flip (l : List UInt8) (r : BitVec 32) (k : Nat) (hk : k < 8 * l.length) : (flip l k).foldl byteB r = l.foldl byteB r ^^^ rep (8 * l.length - k) bit1 1#32 := by
  induction l generalizing r k with
  | nil => simp at hk
  | cons c l ih =>
    by_cases h8 : k < 8
    · have h0 : k / 8 = 0 := by omega
      have h1 : k % 8 = k := by omega
      have hf : flip (c :: l) k = (c ^^^ bitAt k) :: l := by simp [flip, h0, h1]
      have hb : byteB r (c ^^^ bitAt k) = byteB r c ^^^ rep (8 - k) bit1 1#32 := by
        unfold byteB
        rw [z8_xor, ← BitVec.xor_assoc, rep_xor]
        rw [z8_bit ⟨k, h8⟩]
      rw [hf]
      simp only [List.foldl_cons, List.length_cons]
      rw [hb, fold_xor, ← rep_add]
      congr 2
      omega
    · have hf : flip (c :: l) k = c :: flip l (k - 8) := by
        have h0 : k / 8 = (k - 8) / 8 + 1 := by omega
        have h1 : k % 8 = (k - 8) % 8 := by omega
        simp [flip, h0, h1]
      rw [hf]
      simp only [List.foldl_cons, List.length_cons]
      rw [ih _ _ (by simp only [List.length_cons] at hk; omega)]
      congr 2
      omega
theorem rep_pow : ∀ i : Fin 32, rep i.val bit1 (BitVec.ofNat 32 (2 ^ i.val)) = 1#32 := by decide +kernel
theorem fold_flip_at (l : List UInt8) (r : BitVec 32) (k i : Nat) (hi : i < 32) (hk : k + i < 8 * l.length) :
    (flip l (k + i)).foldl byteB r = l.foldl byteB r ^^^ rep (8 * l.length - k) bit1 (BitVec.ofNat 32 (2 ^ i)) := by
  rw [fold_flip l r (k + i) hk, show 8 * l.length - k = (8 * l.length - (k + i)) + i by omega, rep_add _ i, rep_pow ⟨i, hi⟩]
theorem fold_lin (a b c x : List UInt8) (r s t : BitVec 32) (ha : a.length = x.length) (hb : b.length = x.length) (hc : c.length = x.length)
    (hx : ∀ i, i < x.length → x.getD i 0 = a.getD i 0 ^^^ b.getD i 0 ^^^ c.getD i 0) :
    x.foldl byteB (r ^^^ s ^^^ t) = a.foldl byteB r ^^^ b.foldl byteB s ^^^ c.foldl byteB t := by
  induction x generalizing a b c r s t with
  | nil =>
    simp at ha hb hc
    subst ha hb hc
    rfl
  | cons y x ih =>
    obtain ⟨a0, a, rfl⟩ := List.exists_cons_of_length_eq_add_one ha
    obtain ⟨b0, b, rfl⟩ := List.exists_cons_of_length_eq_add_one hb
    obtain ⟨c0, c, rfl⟩ := List.exists_cons_of_length_eq_add_one hc
    have h0 := hx 0 (by simp)
    simp at h0
    have hstep : byteB (r ^^^ s ^^^ t) y = byteB r a0 ^^^ byteB s b0 ^^^ byteB t c0 := by
      unfold byteB
      rw [h0, z8_xor, z8_xor, ← rep_xor, ← rep_xor]
      congr 1
      ac_rfl
    simp only [List.foldl_cons]
    rw [hstep]
    refine ih a b c _ _ _ (by simpa using ha) (by simpa using hb) (by simpa using hc) fun i hi => ?_
    have := hx (i + 1) (by simpa using hi)
    simpa using this
theorem more_lin (a b c x : List UInt8) (ha : a.length = x.length) (hb : b.length = x.length) (hc : c.length = x.length)
    (hx : ∀ i, i < x.length → x.getD i 0 = a.getD i 0 ^^^ b.getD i 0 ^^^ c.getD i 0) : more 0#32 x = more 0#32 a ^^^ more 0#32 b ^^^ more 0#32 c := by
  unfold more
  have := fold_lin a b c x (~~~ 0#32) (~~~ 0#32) (~~~ 0#32) ha hb hc hx
  rw [show ~~~ 0#32 ^^^ ~~~ 0#32 ^^^ ~~~ 0#32 = ~~~ 0#32 by decide] at this
  show ~~~ List.foldl byteB (~~~ 0#32) x = _
  rw [this]
  apply BitVec.eq_of_getLsbD_eq
  intro i hi
  simp [hi]
/-- A word's bytes, the lowest first. -/
def le4 (s : BitVec 32) : List UInt8 := [⟨s.setWidth 8⟩, ⟨(s >>> 8).setWidth 8⟩, ⟨(s >>> 16).setWidth 8⟩, ⟨(s >>> 24).setWidth 8⟩]

theorem xor_right {a b c : BitVec 32} (h : b = c) : a ^^^ b = a ^^^ c := by rw [h]
theorem le4_fold (r s : BitVec 32) : (le4 s).foldl byteB r = rep 32 bit1 (r ^^^ s) := by
  have h : (le4 s).foldl byteB r = (le4 0#32).foldl byteB r ^^^ (le4 s).foldl byteB 0#32 := by
    have := fold_lin (le4 0#32) (le4 s) (le4 0#32) (le4 s) r 0#32 0#32 rfl rfl rfl (by
      intro i hi
      have h0 : ∀ i, i < 4 → (le4 0#32).getD i 0 = 0 := by decide
      rw [h0 i hi]; simp)
    have h0 : (le4 0#32).foldl byteB 0#32 = 0#32 := by decide +kernel
    rw [h0] at this
    simpa using this
  have hz : ∀ r, (le4 0#32).foldl byteB r = rep 32 bit1 r := by
    intro r
    have := fold_xor (le4 0#32) 0#32 r
    have h0 : (le4 0#32).foldl byteB 0#32 = 0#32 := by decide +kernel
    rw [h0] at this
    simpa [le4] using this
  have hs : (le4 s).foldl byteB 0#32 = rep 32 bit1 s := by
    have key : ∀ i : Fin 32, (le4 (BitVec.ofNat 32 (2 ^ i.val))).foldl byteB 0#32 = rep 32 bit1 (BitVec.ofNat 32 (2 ^ i.val)) := by decide +kernel
    have lin : ∀ x y, (le4 (x ^^^ y)).foldl byteB 0#32 = (le4 x).foldl byteB 0#32 ^^^ (le4 y).foldl byteB 0#32 := by
      intro x y
      have := fold_lin (le4 x) (le4 y) (le4 0#32) (le4 (x ^^^ y)) 0#32 0#32 0#32 rfl rfl rfl (by
        intro i hi
        have h0 : ∀ i, i < 4 → (le4 0#32).getD i 0 = 0 := by decide
        rw [h0 i hi]
        have h4 : i = 0 ∨ i = 1 ∨ i = 2 ∨ i = 3 := by simp [le4] at hi; omega
        rcases h4 with rfl | rfl | rfl | rfl <;> simp [le4, BitVec.ushiftRight_xor_distrib])
      have h0 : (le4 0#32).foldl byteB 0#32 = 0#32 := by decide +kernel
      rw [h0] at this
      simpa using this
    have all : ∀ n, n ≤ 32 → (le4 (s &&& BitVec.ofNat 32 (2 ^ n - 1))).foldl byteB 0#32 = rep 32 bit1 (s &&& BitVec.ofNat 32 (2 ^ n - 1)) := by
      intro n hn
      induction n with
      | zero => simp; decide +kernel
      | succ n ih =>
        have hsplit : s &&& BitVec.ofNat 32 (2 ^ (n + 1) - 1) = (s &&& BitVec.ofNat 32 (2 ^ n - 1)) ^^^ (if s.getLsbD n then BitVec.ofNat 32 (2 ^ n) else 0#32) := by
          have hm : ∀ n : Fin 32, ∀ i : Fin 32, (BitVec.ofNat 32 (2 ^ (n.val + 1) - 1)).getLsbD i.val = decide (i.val ≤ n.val) ∧ (BitVec.ofNat 32 (2 ^ n.val - 1)).getLsbD i.val = decide (i.val < n.val) ∧ (BitVec.ofNat 32 (2 ^ n.val)).getLsbD i.val = decide (i.val = n.val) := by decide +kernel
          apply BitVec.eq_of_getLsbD_eq
          intro i hi
          obtain ⟨m1, m2, m3⟩ := hm ⟨n, by omega⟩ ⟨i, hi⟩
          simp only at m1 m2 m3
          rw [BitVec.getLsbD_xor, BitVec.getLsbD_and, BitVec.getLsbD_and, m1, m2]
          by_cases hin : i = n
          · subst hin
            cases hb : s.getLsbD i
            · simp
            · simp only [if_true]; rw [m3]; simp
          · cases hb : s.getLsbD n
            · have : decide (i ≤ n) = decide (i < n) := by
                by_cases h : i < n
                · simp [h]; omega
                · simp [h]; omega
              simp [this]
            · have : decide (i ≤ n) = decide (i < n) := by
                by_cases h : i < n
                · simp [h]; omega
                · simp [h]; omega
              simp only [if_true]; rw [m3]; simp [this, hin]
        rw [hsplit, lin, rep_xor, ih (by omega)]
        refine xor_right ?_
        cases hb : s.getLsbD n
        · simp; decide +kernel
        · have k := key ⟨n, by omega⟩
          dsimp only at k
          rw [if_pos rfl]
          exact k
    have := all 32 (by omega)
    have e : s &&& BitVec.ofNat 32 (2 ^ 32 - 1) = s := by
      rw [show BitVec.ofNat 32 (2 ^ 32 - 1) = BitVec.allOnes 32 from by decide]; exact BitVec.and_allOnes
    rwa [e] at this
  rw [h, hz, hs, ← rep_xor]
/-- P1.1: bytes with their own sum behind them. -/
theorem more_residue (s : BitVec 32) : more s (le4 s) = 0x2144df1c#32 := by
  unfold more
  have hs : ~~~ s ^^^ s = BitVec.allOnes 32 := by
    apply BitVec.eq_of_getLsbD_eq
    intro i hi
    rw [BitVec.getLsbD_xor, BitVec.getLsbD_not, BitVec.getLsbD_allOnes]
    cases s.getLsbD i <;> simp [hi]
  rw [le4_fold, hs]
  decide +kernel

theorem le4_0 (s : BitVec 32) : U s % 256 = V8 ⟨s.setWidth 8⟩ := by
  unfold U V8
  rw [← UInt8.toNat_toBitVec]
  simp [BitVec.toNat_setWidth]
theorem le4_k (s : BitVec 32) (k : Nat) (n : Int) (h : n = 2 ^ k) : U s / n % 256 = V8 ⟨(s >>> k).setWidth 8⟩ := by
  rw [shr_bv s k n h, le4_0]
theorem le4_bytes (s : BitVec 32) : #[Value.int .u8 (U s % 256), Value.int .u8 (U s / 256 % 256), Value.int .u8 (U s / 65536 % 256), Value.int .u8 (U s / 16777216)] = ((le4 s).map B8).toArray := by
  have h3 : U s / (16777216 : Int) = U s / (16777216 : Int) % 256 := by have := U_lt s; omega
  rw [h3, le4_0, le4_k s 8 _ (by decide), le4_k s 16 _ (by decide), le4_k s 24 _ (by decide)]
  rfl
theorem residue_num : U 0x2144df1c#32 = 558161692 := by decide

theorem xor_b8 (x y : UInt8) : bits .xor .u8 (V8 x) (V8 y) = V8 (x ^^^ y) := by
  unfold V8
  have hx := x.toNat_lt
  have hy := y.toNat_lt
  rw [u8_xor_nat _ _ hx hy, UInt8.toNat_xor]

theorem V8_bitAt : ∀ j : Fin 8, (2 : Int) ^ j.val % 256 = V8 (bitAt j.val) := by decide
theorem xor_bit (b : UInt8) (j : Nat) (hj : j < 8) : bits .xor .u8 (V8 b) ((2 : Int) ^ j % 256) = V8 (b ^^^ bitAt j) := by
  rw [V8_bitAt ⟨j, hj⟩, xor_b8]
theorem flip_set (l : List UInt8) (q : Nat) (hq : q < 8 * l.length) : l.set (q / 8) (l.getD (q / 8) 0 ^^^ bitAt (q % 8)) = flip l q := by
  unfold flip
  have h : q / 8 < l.length := by omega
  apply List.ext_getElem?
  intro i
  rw [List.getElem?_set, List.getElem?_modify]
  by_cases hi : q / 8 = i
  · subst hi; simp [List.getD, h]
  · simp [hi]
/-- One bit more is turned. -/
theorem tell_step (ds bs : List UInt8) (n p k W : Nat) (hn : ds.length = n) (hk : k < 32) (hin : p + k < 8 * n) (hW : W < 2 ^ k)
    (hf : ds.foldl byteB (~~~ 0#32) = bs.foldl byteB (~~~ 0#32) ^^^ rep (8 * n - p) bit1 (BitVec.ofNat 32 W)) :
    (flip ds (p + k)).foldl byteB (~~~ 0#32) = bs.foldl byteB (~~~ 0#32) ^^^ rep (8 * n - p) bit1 (BitVec.ofNat 32 (W + 2 ^ k)) := by
  subst hn
  rw [fold_flip_at ds _ p k hk hin, hf, BitVec.xor_assoc, ← rep_xor]
  congr 2
  apply BitVec.eq_of_toNat_eq
  have h32 : (2 : Nat) ^ k * 2 ≤ 2 ^ 32 := by
    rw [← Nat.pow_succ]; exact Nat.pow_le_pow_right (by decide) (by omega)
  rw [BitVec.toNat_xor, BitVec.toNat_ofNat, BitVec.toNat_ofNat, BitVec.toNat_ofNat, Nat.mod_eq_of_lt (by omega), Nat.mod_eq_of_lt (by omega), Nat.mod_eq_of_lt (by omega)]
  have h := Nat.two_pow_add_eq_or_of_lt hW 1
  apply Nat.eq_of_testBit_eq
  intro i
  rw [Nat.testBit_xor, Nat.testBit_two_pow]
  rw [Nat.add_comm W, show 2 ^ k + W = 2 ^ k * 1 + W by omega, h, Nat.testBit_or, Nat.mul_one, Nat.testBit_two_pow]
  by_cases hi : k = i
  · subst hi
    rw [Nat.testBit_lt_two_pow hW]; simp
  · simp [hi]
theorem tell_end (ds bs : List UInt8) (n p W : Nat) (hW : W < 2 ^ 32)
    (hf : ds.foldl byteB (~~~ 0#32) = bs.foldl byteB (~~~ 0#32) ^^^ rep (8 * n - p) bit1 (BitVec.ofNat 32 W)) : (more 0#32 bs ≠ more 0#32 ds) ↔ W ≠ 0 := by
  have h1 : (more 0#32 bs = more 0#32 ds) ↔ rep (8 * n - p) bit1 (BitVec.ofNat 32 W) = 0#32 := by
    unfold more
    rw [hf]
    constructor
    · intro h
      have h' : bs.foldl byteB (~~~ 0#32) = bs.foldl byteB (~~~ 0#32) ^^^ rep (8 * n - p) bit1 (BitVec.ofNat 32 W) := by
        have := congrArg (fun z => ~~~ z) h
        simp only [BitVec.not_not] at this
        exact this
      have h2 := congrArg (fun z => bs.foldl byteB (~~~ 0#32) ^^^ z) h'
      simp only [BitVec.xor_self, ← BitVec.xor_assoc, BitVec.zero_xor] at h2
      exact h2.symm
    · intro h; rw [h, BitVec.xor_zero]
  rw [ne_eq, h1]
  constructor
  · intro h h0; subst h0; exact h (rep_zero _)
  · intro h h0
    have := rep_eq_zero _ h0
    have h3 := congrArg BitVec.toNat this
    simp at h3
    omega

end Go.Proofs.YtloffgoenaomkaaDoor.Crc
/- Frames and numbers in plain terms: lists of bytes, the highest first. No program. -/
namespace Go.Proofs.YtloffgoenaomkaaDoor.Frame
open Go Mem Crc
theorem snoc_ind {α : Type} {P : List α → Prop} (h0 : P []) (h1 : ∀ l c, P l → P (l ++ [c])) (l : List α) : P l := by
  have h : ∀ r : List α, P r.reverse := by
    intro r
    induction r with
    | nil => exact h0
    | cons c r ih => rw [List.reverse_cons]; exact h1 _ _ ih
  have := h l.reverse
  rwa [List.reverse_reverse] at this
/-- The number of some bytes, the highest first. -/
def be (l : List UInt8) : Nat := l.foldl (fun n c => n * 256 + c.toNat) 0
/-- The lowest k bytes of a number, the highest first. -/
def beB (n : Nat) : Nat → List UInt8
  | 0 => []
  | k + 1 => UInt8.ofNat (n / 256 ^ k) :: beB n k
theorem beB_length (n k : Nat) : (beB n k).length = k := by
  induction k with
  | zero => rfl
  | succ k ih => simp [beB, ih]
theorem beB_get (n k j : Nat) (h : j < k) : (beB n k).getD j 0 = UInt8.ofNat (n / 256 ^ (k - 1 - j)) := by
  induction k generalizing j with
  | zero => omega
  | succ k ih =>
    cases j with
    | zero => simp [beB]
    | succ j =>
      simp only [beB, List.getD_cons_succ]
      rw [ih j (by omega)]
      congr 3
      omega
theorem beB_drop (n a b : Nat) : (beB n (a + b)).drop a = beB n b := by
  induction a with
  | zero => simp
  | succ a ih => rw [Nat.add_right_comm]; simpa [beB] using ih
theorem be_snoc (l : List UInt8) (c : UInt8) : be (l ++ [c]) = be l * 256 + c.toNat := by simp [be]
theorem be_lt (l : List UInt8) : be l < 256 ^ l.length := by
  refine snoc_ind (P := fun l => be l < 256 ^ l.length) (by simp [be]) (fun l c ih => ?_) l
  · rw [be_snoc, List.length_append, List.length_singleton, Nat.pow_succ]
    have := c.toNat_lt
    omega
theorem be_beB (n k : Nat) : be (beB n k) = n % 256 ^ k := by
  have gen : ∀ k a, (beB n k).foldl (fun n c => n * 256 + c.toNat) a = a * 256 ^ k + n % 256 ^ k := by
    intro k
    induction k with
    | zero => intro a; simp [beB, Nat.mod_one]
    | succ k ih =>
      intro a
      simp only [beB, List.foldl_cons]
      rw [ih]
      have h1 : (UInt8.ofNat (n / 256 ^ k)).toNat = n / 256 ^ k % 256 := by simp [UInt8.toNat_ofNat']
      rw [h1, Nat.pow_succ, Nat.mod_mul, Nat.add_mul]
      have e1 : a * 256 * 256 ^ k = a * (256 ^ k * 256) := by rw [Nat.mul_assoc, Nat.mul_comm 256]
      rw [e1, Nat.mul_comm (n / 256 ^ k % 256)]
      omega
  have := gen k 0
  simpa [be] using this
theorem beB_be (l : List UInt8) : beB (be l) l.length = l := by
  refine snoc_ind (P := fun l => beB (be l) l.length = l) rfl (fun l c ih => ?_) l
  · have hc := c.toNat_lt
    have key : ∀ (m k : Nat), beB (m * 256 + c.toNat) (k + 1) = beB m k ++ [c] := by
      intro m k
      induction k with
      | zero =>
        simp only [beB, Nat.pow_zero, Nat.div_one, List.nil_append]
        congr 1
        apply UInt8.toNat_inj.1
        simp
      | succ k ihk =>
        rw [show beB (m * 256 + c.toNat) (k + 1 + 1) = UInt8.ofNat ((m * 256 + c.toNat) / 256 ^ (k + 1)) :: beB (m * 256 + c.toNat) (k + 1) from rfl, ihk]
        rw [show beB m (k + 1) = UInt8.ofNat (m / 256 ^ k) :: beB m k from rfl, List.cons_append]
        congr 2
        rw [Nat.pow_succ, Nat.mul_comm (256 ^ k), ← Nat.div_div_eq_div_mul]
        congr 1
        omega
    rw [be_snoc, List.length_append, List.length_singleton, key, ih]
theorem beB_mod (n k : Nat) : beB (n % 256 ^ k) k = beB n k := by
  have h := beB_be (beB n k)
  rw [beB_length, be_beB] at h
  exact h
theorem or_be (n : Nat) (c : UInt8) (h : n < 72057594037927936) : bits .or .u64 ((n : Int) * 256) (V8 c) = ((n * 256 + c.toNat : Nat) : Int) := by
  have hc := c.toNat_lt
  unfold V8
  rw [show ((n : Int) * 256) = ((n * 256 : Nat) : Int) from by omega, u64_or_nat _ _ (by omega) (by omega)]
  congr 1
  exact nat_join 8 (n * 256) c.toNat (by omega) hc
theorem V8_ofNat (m : Nat) : V8 (UInt8.ofNat m) = ((m % 256 : Nat) : Int) := by unfold V8; simp [UInt8.toNat_ofNat']
theorem shr_byte (n k : Nat) (hk : k < 8) : (n : Int) / 2 ^ (56 - 8 * k) % 256 = V8 (UInt8.ofNat (n / 256 ^ (7 - k))) := by
  rw [V8_ofNat, show (256 : Nat) = 2 ^ 8 from rfl, ← Nat.pow_mul, show 8 * (7 - k) = 56 - 8 * k by omega]
  generalize 56 - 8 * k = m
  simp
theorem shr_byte' (n j : Nat) : (n : Int) / 2 ^ (8 * j) % 256 = V8 (UInt8.ofNat (n / 256 ^ j)) := by
  rw [V8_ofNat, show (256 : Nat) = 2 ^ 8 from rfl, ← Nat.pow_mul]
  generalize 8 * j = m
  simp
def okSize (size : Int) : Bool := decide (1 ≤ size ∧ size ≤ 8)
/-- P4.3. -/
def number (b : List UInt8) (n : Nat) (size : Int) : List UInt8 := if okSize size then b ++ beB n size.toNat else b
/-- P4.1. -/
def head (kind : UInt8) (b : List UInt8) : List UInt8 := beB b.length 4 ++ [kind] ++ b
def pack (kind : UInt8) (b : List UInt8) : List UInt8 := head kind b ++ beB (more 0#32 (head kind b)).toNat 4
theorem head_length (kind : UInt8) (b : List UInt8) : (head kind b).length = b.length + 5 := by simp [head, beB_length]; omega
theorem pack_length (kind : UInt8) (b : List UInt8) : (pack kind b).length = b.length + 9 := by simp [pack, beB_length, head_length]
/-- P4.4: the number, what is behind it, the error. -/
def takeM (b : List UInt8) (size : Int) : Nat × List UInt8 × Int :=
  if okSize size then (if (b.length : Int) < size then (0, [], 40) else (be (b.take size.toNat), b.drop size.toNat, 0)) else (0, [], 1)
/-- P4.2: kind, payload, what is behind. -/
def unpackM (b : List UInt8) : Option (UInt8 × List UInt8 × List UInt8) :=
  if b.length < 9 then none
  else if b.length - 9 < be (b.take 4) then none
  else if be ((b.drop (5 + be (b.take 4))).take 4) ≠ (more 0#32 (b.take (5 + be (b.take 4)))).toNat then none
  else some (b.getD 4 0, (b.take (5 + be (b.take 4))).drop 5, b.drop (9 + be (b.take 4)))
end Go.Proofs.YtloffgoenaomkaaDoor.Frame
/- The walks of package frame that need no check sum (numbers, copies): each function once, over any bytes that are read in memory. -/
namespace Go.Proofs.YtloffgoenaomkaaDoor.Frame
open Go.RowKit Mem Crc
theorem byteTy : ByteTy Tryd.prog 38 5 := ⟨Tryd.underlying38, Tryd.underlying5, by kernel_rfl⟩
/-- The call gives back bytes of its own, and nothing that was there has changed. -/
def RetB (w : World) (bs : List UInt8) (e : Ending) (w' : World) : Prop :=
  ∃ A N c, e = .returned (.slice A N c) ∧ Own w' w.heap.size 5 A N c bs ∧ Below w.heap.size w w'

set_option maxHeartbeats 400000 in
/-- 'slices.Clone' of bytes. -/
theorem clone_any (A : Option Addr) (bs : List UInt8) (n cap : Nat) (w : World) (hn : bs.length = n) (hl : n ≤ 140737488355328) (hb : BAt w A bs) :
    Calls Tryd.prog 63 #[.slice A n cap] w (RetB w bs) := by
  have HB := Lib.hid hb
  have HN := Lib.hid hn
  clear hb hn
  cases A with
  | none =>
    have he : ∀ W, (binOp .eql 38 (.slice none n cap) (.slice none 0 0)).run Tryd.prog W = .ok (.bool true) W := fun W => Lib.run_eql_slice_nil W 38 5 none n cap 0 0 Tryd.underlying38
    go_enter Tryd.func63, Tryd.ntmps63
    go_wp2_with fail
    go_ret
    have hbs : bs = [] := by
      rcases Nat.eq_zero_or_pos bs.length with h0 | h0
      · exact List.eq_nil_of_length_eq_zero h0
      · obtain ⟨ad, h, _⟩ := HB.out h0
        cases h
    subst hbs
    exact ⟨_, _, _, rfl, Own.nil_ _ _ _, Below.refl _ _⟩
  | some ad =>
    have he : ∀ W, (binOp .eql 38 (.slice (some ad) n cap) (.slice none 0 0)).run Tryd.prog W = .ok (.bool false) W := fun W => Lib.run_eql_slice_nil W 38 5 (some ad) n cap 0 0 Tryd.underlying38
    go_enter Tryd.func63, Tryd.ntmps63
    go_wp2_with
      (at_builtin
       refine wpList_append_bytes rfl (.tmp 5) (.tmp 6) _ rfl w.heap.size _ byteTy _ 0 0 [] rfl (Own.new w _ _ rfl (Nat.le_refl _) (by rfl) rfl (by decide)) _ n cap bs rfl
         (HB.out.below ((Below.refl _ _).alloc (Nat.le_refl _) _)) HN.out n (Nat.zero_add n) (by omega) (by simp) ?_
       intro A2 c2 w5 ho2 hg2 hb2 hA2
       have HO2 := Lib.hid ho2
       have HBW2 := Lib.hid (((Below.refl w.heap.size w).alloc (Nat.le_refl _) _).trans hb2)
       clear ho2 hg2 hb2 hA2)
    go_ret
    exact ⟨_, _, _, rfl, by simpa using HO2.out, HBW2.out⟩
attribute [local go_sem] or_be
set_option maxHeartbeats 400000 in
/-- 'high': the number of up to eight bytes. -/
theorem high_any (A : Option Addr) (bs : List UInt8) (n cap : Nat) (w : World) (hn : bs.length = n) (hl : n ≤ 8) (hb : BAt w A bs) :
    Calls Tryd.prog 77 #[.slice A n cap] w fun e w' => e = .returned (.tuple #[.int .u64 (be bs : Nat), .int .i64 n]) ∧ w = w' := by
  have HB := Lib.hid hb
  have HN := Lib.hid hn
  clear hb hn
  go_enter Tryd.func77, Tryd.ntmps77
  go_wp2
  go_loop [4, 9] (fun r i => ∃ k : Nat, k ≤ n ∧ i = .int .i64 k ∧ r = .int .u64 (be (bs.take k) : Nat)) (fun _ i => n - (intOf i).toNat)
  case atStart => exact ⟨0, Nat.zero_le _, rfl, rfl⟩
  case round =>
    obtain ⟨k, hk, rfl, rfl⟩ := hrel
    by_cases hlt : k < n
    · have hkl : k < bs.length := by have := HN.out; omega
      have hs : be (bs.take (k + 1)) = be (bs.take k) * 256 + bs[k].toNat := by rw [List.take_succ_eq_append_getElem hkl, be_snoc]
      have hlt1 := be_lt (bs.take k)
      rw [List.length_take_of_le (by omega)] at hlt1
      have h7 : 256 ^ k ≤ 256 ^ 7 := Nat.pow_le_pow_right (by decide) (by omega)
      generalize hr : be (bs.take k) = r at *
      have H := Lib.hid hs
      clear hs hr
      obtain ⟨ad, rfl, hc⟩ := HB.out (by omega)
      have hcell : w.cell? (ad.add k) = some (.int .u8 (V8 bs[k])) := by have := hc k hkl; simpa [List.getD, hkl] using this
      clear hc
      have hr7 : r < 72057594037927936 := by omega
      clear h7 hlt1
      have hv := V8_lt bs[k]
      go_wp2
      go_round
      case rel => exact ⟨k + 1, hlt, by go_num, by rw [H.out]; simp⟩
      case measure => simp [intOf]; omega
    · obtain rfl : k = n := by omega
      have hz : be (bs.take k) = be bs := by rw [List.take_of_length_le (by have := HN.out; omega)]
      clear HB
      rw [hz]
      go_wp2
      go_ret2
      exact ⟨rfl, rfl⟩
/-- The array that Number fills, after k rounds. -/
def RowRel (w : World) (g n : Nat) (i : Value) (wr : World) : Prop :=
  ∃ (k : Nat) (row : List UInt8), k ≤ 8 ∧ i = .int .i64 k ∧ row.length = 8 ∧ Blk wr g 127 (cellsOf row) ∧ Below g w wr ∧ g < wr.heap.size ∧ ∀ j, j < k → row.getD j 0 = (beB n 8).getD j 0
set_option maxHeartbeats 400000 in
/-- 'Number', of a size that is none. -/
theorem number_no (A : Option Addr) (bs : List UInt8) (m cap : Nat) (n : Nat) (size : Int) (w : World) (hm : bs.length = m) (hl : m ≤ 140737488355328) (hb : BAt w A bs) (hsz : ¬ (1 ≤ size ∧ size ≤ 8)) :
    Calls Tryd.prog 39 #[.slice A m cap, .int .u64 n, .int .i64 size] w (RetB w bs) := by
  have HC := Lib.hid (clone_any A bs m cap w hm hl hb)
  clear hb hm
  have hcase : size < 1 ∨ ¬ size < 1 ∧ 8 < size := by omega
  clear hsz
  rcases hcase with h1 | ⟨h1, h2⟩
  all_goals
    go_enter Tryd.func39, Tryd.ntmps39
    go_wp2_with fail
    refine HC.out.mono ?_
    rintro e w1 ⟨A1, N1, c1, rfl, ho, hbw⟩
    have HO := Lib.hid ho
    have HBW := Lib.hid hbw
    clear ho hbw HC
    go_wp2_with fail
    go_ret
    exact ⟨_, _, _, rfl, HO.out, HBW.out⟩
set_option maxHeartbeats 400000 in
/-- 'Number', of 1 to 8 bytes. -/
theorem number_yes (A : Option Addr) (bs : List UInt8) (m cap : Nat) (n : Nat) (size : Nat) (w : World) (hm : bs.length = m) (hl : m ≤ 140737488355320) (hb : BAt w A bs) (h1 : 1 ≤ size) (h8 : size ≤ 8) (_hn : n < 18446744073709551616) :
    Calls Tryd.prog 39 #[.slice A m cap, .int .u64 n, .int .i64 size] w (RetB w (bs ++ beB n size)) := by
  have HC := Lib.hid (clone_any A bs m cap w hm (by omega) hb)
  have HM := Lib.hid hm
  clear hb hm
  go_enter Tryd.func39, Tryd.ntmps39
  go_wp2_with fail
  refine HC.out.mono ?_
  rintro e w1 ⟨A1, N1, c1, rfl, ho, hbw⟩
  obtain rfl : N1 = m := by rw [← ho.len]; exact HM.out
  have HO := Lib.hid ho
  have HBW := Lib.hid hbw
  have hsz := hbw.size
  clear ho hbw HC
  go_wp2_with fail
  go_loopw [19] (fun i wr => RowRel w1 w1.heap.size n i wr) (fun i _ => 8 - (intOf i).toNat)
  case atStart => exact ⟨0, List.replicate 8 0, by omega, rfl, rfl, Blk.new w1 _ _, (Below.refl _ _).alloc (Nat.le_refl _) _, by simp, fun j hj => absurd hj (by omega)⟩
  case round =>
    obtain ⟨k, row, hk, rfl, hrl, hG, hW, hlt', hj⟩ := hrel
    have HG := Lib.hid hG
    have HW := Lib.hid hW
    have HJ := Lib.hid hj
    have HR := Lib.hid hrl
    clear hG hW hj hrl
    by_cases hlt : k < 8
    · have h4 := HG.out.byte (k := k) (by have := HR.out; omega)
      have h5 := HG.out.frozen k
      go_wp2
      go_roundw
      case rel =>
        rw [shr_byte n k hlt]
        refine ⟨k + 1, row.set k (UInt8.ofNat (n / 256 ^ (7 - k))), hlt, by go_num, by simpa using HR.out, HG.out.setByte k _, HW.out.setCell (Nat.le_refl _) _, by simpa [World.setCell] using hlt', fun j hj => ?_⟩
        rcases Nat.lt_or_ge j k with h | h
        · have := HJ.out j h
          simp [List.getD, Nat.ne_of_gt h] at this ⊢
          exact this
        · obtain rfl : j = k := by omega
          have := beB_get n 8 j hlt
          rw [this]
          have hr := HR.out
          simp [List.getD, hr, hlt]
      case measure => simp [intOf]; omega
    · obtain rfl : k = 8 := by omega
      have hrow : row = beB n 8 := by
        have h8 := HR.out
        apply List.ext_getElem (by rw [h8, beB_length])
        intro j h1 h2
        have := HJ.out j (by omega)
        simpa [List.getD, h1, h2] using this
      subst hrow
      have HT := Lib.hid ((HG.out.bat).drop (8 - size))
      have hd : (beB n 8).drop (8 - size) = beB n size := by
        have := beB_drop n (8 - size) size
        rwa [show 8 - size + size = 8 by omega] at this
      rw [hd, add_off, Nat.zero_add] at HT
      have HO' := Lib.hid (HO.out.below HW.out)
      have HBW' := Lib.hid (HBW.out.trans (HW.out.mono hsz))
      clear HG HW HJ HR hd HO HBW
      have hcut := fun W => run_cutArray (P := Tryd.prog) 127 5 8 Tryd.underlying127 byteTy.hi w1.heap.size 0 .i64 (8 - (size : Int)) (8 - size) (by omega) (by omega) W
      rw [Nat.zero_add, show 8 - (8 - size) = size by omega] at hcut
      go_wp2_with
        (at_builtin
         refine wpList_append_bytes rfl (.tmp 31) (.tmp 34) _ rfl w.heap.size _ byteTy _ _ _ bs rfl HO'.out _ size _ (beB n size) rfl
           HT.out (beB_length _ _) (N1 + size) rfl (by omega) HBW'.out.size ?_
         intro A2 c2 w5 ho2 hg2 hb2 hA2
         have HO2 := Lib.hid ho2
         have HBW2 := Lib.hid (HBW'.out.trans hb2)
         clear ho2 hg2 hb2 hA2)
      go_ret
      exact ⟨_, _, _, rfl, HO2.out, HBW2.out⟩
/-- Number, all sizes. -/
theorem number_any (A : Option Addr) (bs : List UInt8) (m cap : Nat) (n : Nat) (size : Int) (w : World) (hm : bs.length = m) (hl : m ≤ 140737488355320) (hb : BAt w A bs) (hn : n < 18446744073709551616) :
    Calls Tryd.prog 39 #[.slice A m cap, .int .u64 n, .int .i64 size] w (RetB w (number bs n size)) := by
  unfold number okSize
  by_cases h : 1 ≤ size ∧ size ≤ 8
  · rw [if_pos (by simpa using h)]
    obtain ⟨s, rfl⟩ := Int.eq_ofNat_of_zero_le (show 0 ≤ size by omega)
    rw [Int.toNat_natCast]
    exact number_yes A bs m cap n s w hm hl hb (by omega) (by omega) hn
  · rw [if_neg (by simpa using h)]
    exact number_no A bs m cap n size w hm (by omega) hb h
/-- What Take gives back. -/
def RetT (w : World) (r : Nat × List UInt8 × Int) (e : Ending) (w' : World) : Prop :=
  ∃ A N c, e = .returned (.tuple #[.int .u64 (r.1 : Nat), .slice A N c, .int .i64 r.2.2]) ∧ Own w' w.heap.size 5 A N c r.2.1 ∧ Below w.heap.size w w'
set_option maxHeartbeats 400000 in
theorem take_no (A : Option Addr) (m cap : Nat) (size : Int) (w : World) (hsz : ¬ (1 ≤ size ∧ size ≤ 8)) :
    Calls Tryd.prog 65 #[.slice A m cap, .int .i64 size] w (RetT w (0, [], 1)) := by
  have hcase : size < 1 ∨ ¬ size < 1 ∧ 8 < size := by omega
  clear hsz
  rcases hcase with h1 | ⟨h1, h2⟩
  all_goals
    go_enter Tryd.func65, Tryd.ntmps65
    go_wp2
    go_ret3
    exact ⟨_, _, _, rfl, Own.nil_ _ _ _, Below.refl _ _⟩
set_option maxHeartbeats 400000 in
theorem take_short (A : Option Addr) (m cap : Nat) (size : Int) (w : World) (h1 : 1 ≤ size) (h8 : size ≤ 8) (hm : (m : Int) < size) :
    Calls Tryd.prog 65 #[.slice A m cap, .int .i64 size] w (RetT w (0, [], 40)) := by
  go_enter Tryd.func65, Tryd.ntmps65
  go_wp2
  go_ret3
  exact ⟨_, _, _, rfl, Own.nil_ _ _ _, Below.refl _ _⟩
set_option maxHeartbeats 400000 in
theorem take_yes (A : Option Addr) (bs : List UInt8) (m cap : Nat) (size : Nat) (w : World) (hl : bs.length = m) (hcap : m ≤ cap) (hmax : m ≤ 140737488355328) (hb : BAt w A bs) (h1 : 1 ≤ size) (h8 : size ≤ 8) (hm : size ≤ m) :
    Calls Tryd.prog 65 #[.slice A m cap, .int .i64 size] w (RetT w (be (bs.take size), bs.drop size, 0)) := by
  have hc1 := fun W => run_cut_h (P := Tryd.prog) 38 5 byteTy A m cap .i64 (size : Int) size rfl (by omega) W
  have hc2 := fun W => run_cut_l (P := Tryd.prog) 38 5 byteTy A m cap .i64 (size : Int) size rfl hm W
  have HC := Lib.hid (high_any A (bs.take size) size cap w (by simp; omega) h8 (hb.take size))
  have HB := Lib.hid hb
  have HL := Lib.hid hl
  have hlt : ¬ (m : Int) < (size : Int) := by omega
  clear hb hl
  go_enter Tryd.func65, Tryd.ntmps65
  go_wp2_with fail
  refine HC.out.mono ?_
  rintro e w1 ⟨rfl, rfl⟩
  clear HC
  have hsub : (m : Int) - (size : Int) = ((m - size : Nat) : Int) := by omega
  have hcn : cutA A cap size = none → cap - size = 0 := by
    intro h
    obtain ⟨ad, rfl, _⟩ := HB.out (by have := HL.out; omega)
    unfold cutA at h
    split at h
    · cases h
    · cases h
  have hdl : (bs.drop size).length = m - size := by have := HL.out; simp; omega
  have HN := Lib.hid hcn
  have HD := Lib.hid hdl
  clear hcn hdl
  go_wp2_with (first
    | (refine wpList_make_bytes rfl (.tmp 29) (.tmp 29) _ _ rfl byteTy _ _ (m - size) rfl rfl (by omega) ?_
       intro w2 hb2 hw2 hz2
       have HG2 := Lib.hid hb2
       have HBW2 := Lib.hid hw2
       have HB2 := Lib.hid ((HB.out.below hw2).cut cap size (by have := HL.out; omega))
       clear hb2 hw2)
    | (refine wpList_copy_bytes rfl (.tmp 31) (.tmp 34) _ rfl _ byteTy w.heap.size 0 (m - size) (m - size) _ _ rfl HG2.out (cutA A cap size) (m - size) (cap - size) (bs.drop size) rfl HB2.out HD.out (m - size) (Nat.min_self _).symm (by simp) HN.out ?_
       intro w3 hb3 hg3 hz3
       have HG3 := Lib.hid hb3
       have HBW3 := Lib.hid ((HBW2.out).grown hg3 (Nat.le_of_lt hz2) (by simp))
       clear hb3 hg3 hz3))
  go_ret3
  have e1 : List.take 0 (List.replicate (m - size) (0 : UInt8)) ++ (bs.drop size).take (m - size) ++ List.drop (0 + (m - size)) (List.replicate (m - size) 0) = bs.drop size := by
    have := HD.out
    rw [Nat.zero_add, List.take_zero, List.nil_append, List.take_of_length_le (Nat.le_of_eq this), List.drop_eq_nil_of_le (Nat.le_of_eq List.length_replicate), List.append_nil]
  have hg := HG3.out
  rw [e1] at hg
  exact ⟨_, _, _, rfl, Own.of_blk hg (Nat.le_refl _) HD.out (by unfold maxLen; omega), HBW3.out⟩
theorem take_any (A : Option Addr) (bs : List UInt8) (m cap : Nat) (size : Int) (w : World) (hl : bs.length = m) (hcap : m ≤ cap) (hmax : m ≤ 140737488355328) (hb : BAt w A bs) :
    Calls Tryd.prog 65 #[.slice A m cap, .int .i64 size] w (RetT w (takeM bs size)) := by
  unfold takeM okSize
  by_cases h : 1 ≤ size ∧ size ≤ 8
  · rw [if_pos (by simpa using h)]
    by_cases hs : (bs.length : Int) < size
    · rw [if_pos hs]
      exact take_short A m cap size w h.1 h.2 (by omega)
    · rw [if_neg hs]
      obtain ⟨s, rfl⟩ := Int.eq_ofNat_of_zero_le (show 0 ≤ size by omega)
      rw [Int.toNat_natCast]
      exact take_yes A bs m cap s w hl hcap hmax hb (by omega) (by omega) (by omega)
  · rw [if_neg (by simpa using h)]
    exact take_no A m cap size w h
end Go.Proofs.YtloffgoenaomkaaDoor.Frame
/- The walks of package crc and of its reference: each function once, over any bytes that are read in memory. -/
namespace Go.Proofs.YtloffgoenaomkaaDoor.Crc
open Go.RowKit Mem
/-- The table of sums lies where it was laid. -/
def Tab (w : World) : Prop := ∀ i, i < 16 → w.cell? ⟨0, i, none⟩ = some (.int .u32 (U (nib i)))
theorem Tab.below {w w' : World} {B : Nat} (h : Tab w) (hb : Below B w w') (hB : 0 < B) : Tab w' := fun i hi => (hb.cell (p := ⟨0, i, none⟩) hB).trans (h i hi)
theorem Tab.same {w w' : World} (h : Tab w) (hw : ∀ o, w'.cell? ⟨0, o, none⟩ = w.cell? ⟨0, o, none⟩) : Tab w' := fun i hi => (hw i).trans (h i hi)

section
attribute [local go_sem] xor_z8 and_15 xor_shr4 not_bv
set_option maxHeartbeats 400000 in
theorem more_walk (s : BitVec 32) (A : Option Addr) (bs : List UInt8) (cap : Nat) (w : World) (hl : bs.length ≤ 9223372036854775807) (hb : BAt w A bs) (ht : Tab w) :
    Calls Tryd.prog 76 #[.int .u32 (U s), .slice A bs.length cap] w fun e w' => e = .returned (.int .u32 (U (~~~ (bs.foldl byteT (~~~ s))))) ∧ w = w' := by
  have HB := Lib.hid hb
  have HT := Lib.hid ht
  clear hb ht
  go_enter Tryd.func76, Tryd.ntmps76
  go_wp2
  go_loop [5, 12] (fun r i => ∃ k : Nat, k ≤ bs.length ∧ i = .int .i64 k ∧ r = .int .u32 (U ((bs.take k).foldl byteT (~~~ s)))) (fun _ i => bs.length - (intOf i).toNat)
  case atStart => exact ⟨0, Nat.zero_le _, rfl, rfl⟩
  case round =>
    obtain ⟨k, hk, rfl, rfl⟩ := hrel
    by_cases hlt : k < bs.length
    · have hs : (bs.take (k + 1)).foldl byteT (~~~ s) = half (half ((bs.take k).foldl byteT (~~~ s) ^^^ z8 bs[k])) := by
        rw [List.take_succ_eq_append_getElem hlt, List.foldl_append]; rfl
      generalize hr : (bs.take k).foldl byteT (~~~ s) = r at *
      have H := Lib.hid hs
      clear hs hr
      obtain ⟨ad, rfl, hc⟩ := HB.out (by omega)
      have hcell : w.cell? (ad.add k) = some (.int .u8 (V8 (bs.getD k 0))) := hc k hlt
      have l1 := lo4_lt (r ^^^ z8 bs[k])
      have h1 := HT.out (lo4 (r ^^^ z8 bs[k])) l1
      have l2 := lo4_lt (half (r ^^^ z8 bs[k]))
      have h2 := HT.out (lo4 (half (r ^^^ z8 bs[k]))) l2
      clear hc
      unfold half at l2 h2
      simp only [show ∀ x : BitVec 32, x.toNat % 16 = lo4 x from fun _ => rfl] at l2 h2
      go_wp2
      go_round
      case rel => exact ⟨k + 1, hlt, by go_num, by rw [H.out]; rfl⟩
      case measure => simp [intOf]; omega
    · obtain rfl : k = bs.length := by omega
      clear HB HT
      go_wp2
      go_ret
      exact ⟨rfl, rfl⟩
end
/-- 'crc.More'. -/
theorem more_any (s : BitVec 32) (A : Option Addr) (bs : List UInt8) (n cap : Nat) (w : World) (hn : bs.length = n) (hl : n ≤ 9223372036854775807) (hb : BAt w A bs) (ht : Tab w) :
    Calls Tryd.prog 76 #[.int .u32 (U s), .slice A n cap] w fun e w' => e = .returned (.int .u32 (U (more s bs))) ∧ w = w' := by
  subst hn
  refine (more_walk s A bs cap w hl hb ht).mono ?_
  rintro e w' ⟨rfl, rfl⟩
  rw [foldl_byteT]
  exact ⟨rfl, rfl⟩
/-- 'crc.Sum'. -/
theorem sum_any (A : Option Addr) (bs : List UInt8) (n cap : Nat) (w : World) (hn : bs.length = n) (hl : n ≤ 9223372036854775807) (hb : BAt w A bs) (ht : Tab w) :
    Calls Tryd.prog 64 #[.slice A n cap] w fun e w' => e = .returned (.int .u32 (U (more 0#32 bs))) ∧ w = w' := by
  have h := more_any 0#32 A bs n cap w hn hl hb ht
  rw [show U 0#32 = 0 from rfl] at h
  have HC := Lib.hid h
  clear h hn hb ht
  go_enter Tryd.func64, Tryd.ntmps64
  go_wp2_with (go_at_call 76; refine (HC.out).mono ?_; rintro e w' ⟨rfl, rfl⟩)
  go_ret
  exact ⟨rfl, rfl⟩
theorem sum_q (A : Option Addr) (bs : List UInt8) (n cap : Nat) (w : World) (hn : bs.length = n) (hl : n ≤ 9223372036854775807) (hb : BAt w A bs) (ht : Tab w) (N : Nat) :
    Calls Tryd.prog 64 #[.slice A n cap] (w.drewN N) fun e w' => e = .returned (.int .u32 (U (more 0#32 bs))) ∧ w' = w.drewN N :=
  (sum_any A bs n cap (w.drewN N) hn hl hb ht).mono fun _ _ h => ⟨h.1, h.2.symm⟩

/-! ### The reference -/
section
attribute [local go_sem] xor_z8 not_bv
end
end Go.Proofs.YtloffgoenaomkaaDoor.Crc
/- Layer 15 (coldvol): the small functions. -/
namespace Go.Proofs.YtloffgoenaomkaaDoor.Col
open Go Go.RowKit Mem Pl Disk Crc _root_.Go.Proofs.YtloffgoenaomkaaDoor.Frame
/-- How many blocks an object takes. -/
def blocksZ (z : Int) : Nat := if z < 0 ∨ 512 < z then 0 else 2 + (z.toNat + 55) / 56
theorem blocks_any (w : World) (z : Int) : Calls Tryd.prog 18 #[.int .i64 z] w fun e w' => e = .returned (.int .i64 (blocksZ z : Int)) ∧ w = w' := by
  by_cases hneg : z < 0
  · have hb : blocksZ z = 0 := by unfold blocksZ; rw [if_pos (.inl hneg)]
    rw [hb]
    clear hb
    go_enter Tryd.func18, Tryd.ntmps18
    go_wp2_with fail
    go_ret
    exact ⟨rfl, rfl⟩
  · by_cases hbig : 512 < z
    · have hb : blocksZ z = 0 := by unfold blocksZ; rw [if_pos (.inr hbig)]
      rw [hb]
      clear hb
      go_enter Tryd.func18, Tryd.ntmps18
      go_wp2_with fail
      go_ret
      exact ⟨rfl, rfl⟩
    · obtain ⟨n, rfl⟩ : ∃ n : Nat, z = (n : Int) := ⟨z.toNat, by omega⟩
      have hn : n ≤ 512 := by omega
      obtain ⟨q, hq⟩ : ∃ q, (n + 55) / 56 = q := ⟨_, rfl⟩
      have hb : blocksZ (n : Int) = 2 + q := by unfold blocksZ; rw [if_neg (by omega), Int.toNat_natCast, hq]
      rw [hb]
      have h1 : IntKind.i64.wrap ((n : Int) + 56) = ((n + 56 : Nat) : Int) := by rw [show (n : Int) + 56 = ((n + 56 : Nat) : Int) by omega]; exact IntWalk.i64_in _ (by omega)
      have h2 : IntKind.i64.wrap (((n + 56 : Nat) : Int) - 1) = ((n + 55 : Nat) : Int) := by rw [show ((n + 56 : Nat) : Int) - 1 = ((n + 55 : Nat) : Int) by omega]; exact IntWalk.i64_in _ (by omega)
      have h3 : Int.tdiv ((n + 55 : Nat) : Int) 56 = (q : Int) := by rw [Int.tdiv_eq_ediv_of_nonneg (by omega)]; omega
      have h4 : IntKind.i64.wrap (q : Int) = (q : Int) := IntWalk.i64_in _ (by omega)
      have h5 : IntKind.i64.wrap (2 + (q : Int)) = ((2 + q : Nat) : Int) := by rw [show 2 + (q : Int) = ((2 + q : Nat) : Int) by omega]; exact IntWalk.i64_in _ (by omega)
      have h6 : ((n + 55 : Nat) : Int) / 56 = (q : Int) := by omega
      generalize n + 56 = n56 at *
      generalize n + 55 = n55 at *
      clear hb hq
      go_enter Tryd.func18, Tryd.ntmps18
      go_wp2_with fail
      go_ret
      exact ⟨by simp, rfl⟩
/-- What a block says of itself. -/
def tagM (kind number at_ : Nat) : List UInt8 := [UInt8.ofNat kind, UInt8.ofNat number, UInt8.ofNat (at_ / 256), UInt8.ofNat at_]
theorem B8_ofNat (n : Nat) : B8 (UInt8.ofNat n) = .int .u8 ((n % 256 : Nat) : Int) := by
  show Value.int .u8 (V8 (UInt8.ofNat n)) = _
  rw [show V8 (UInt8.ofNat n) = ((UInt8.ofNat n).toNat : Int) from rfl, UInt8.toNat_ofNat']
theorem tag_size : (Tryd.prog.info? 97).map (·.size) = some 4 := by kernel_rfl
theorem load_tag {w : World} {g : Nat} {t : TypeId} {cs : List Value} (h : Blk w g t cs.toArray) (h4 : cs.length = 4) : (loadVar 97 ⟨g, 0, none⟩).run Tryd.prog w = .ok (.agg cs.toArray) w :=
  run_loadVar_mid (P := Tryd.prog) w g 0 97 cs _ (blk_range (cs := cs) h 0 _ fun j v hv => by rw [Nat.zero_add]; exact hv) Tryd.underlying97 rfl (by rw [tag_size, h4])
theorem tagOf_any (w : World) (kind number at_ : Nat) (hk : kind < 256) (hn : number < 256) (ha : at_ < 65536) : Calls Tryd.prog 41 #[.int .i64 (kind : Int), .int .i64 (number : Int), .int .i64 (at_ : Int)] w fun e w' =>
    e = .returned (.agg ((tagM kind number at_).map B8).toArray) ∧ Below w.heap.size w w' := by
  have e : (.agg ((tagM kind number at_).map B8).toArray : Value) = .agg #[.int .u8 (kind : Int), .int .u8 (number : Int), .int .u8 ((at_ / 256 : Nat) : Int), .int .u8 ((at_ % 256 : Nat) : Int)] := by
    unfold tagM
    simp only [List.map_cons, List.map_nil, B8_ofNat]
    rw [Nat.mod_eq_of_lt hk, Nat.mod_eq_of_lt hn, Nat.mod_eq_of_lt (show at_ / 256 < 256 by omega)]
  rw [e]
  clear e
  obtain ⟨q, hq⟩ : ∃ q, at_ / 256 = q := ⟨_, rfl⟩
  obtain ⟨r, hr⟩ : ∃ r, at_ % 256 = r := ⟨_, rfl⟩
  have w1 : IntKind.u8.wrap (kind : Int) = (kind : Int) := IntWalk.u8_in _ (by omega)
  have w2 : IntKind.u8.wrap (number : Int) = (number : Int) := IntWalk.u8_in _ (by omega)
  have w3 : IntKind.u8.wrap (q : Int) = (q : Int) := IntWalk.u8_in _ (by omega)
  have w4 : IntKind.u8.wrap (at_ : Int) = (r : Int) := by rw [IntKind.wrap_u8]; omega
  have w5 : IntKind.i64.wrap (q : Int) = (q : Int) := IntWalk.i64_in _ (by omega)
  have hd : (at_ : Int) / 256 = (q : Int) := by omega
  rw [hq, hr]
  have hb := below_al' (w := w) (.cells #[.int .u8 (kind : Int), .int .u8 (number : Int), .int .u8 (q : Int), .int .u8 (r : Int)] 97)
  have HB := Lib.hid hb
  clear hq hr hb
  go_enter Tryd.func41, Tryd.ntmps41
  go_wp2_with fail
  have hld := load_tag (Blk.new w 97 #[.int .u8 (kind : Int), .int .u8 (number : Int), .int .u8 (q : Int), .int .u8 (r : Int)]) rfl
  refine bodyPost_ret (v := .agg #[.int .u8 (kind : Int), .int .u8 (number : Int), .int .u8 (q : Int), .int .u8 (r : Int)]) ?_ rfl ?_
  · simp [results, Tryd.results41, asAddr, hld]
  · exact ⟨rfl, HB.out⟩
/-- A tape's own two cells. -/
def tapeV (a dev : Nat) : Value := .agg #[.pointer (some ⟨a, 0, none⟩), .int .i64 (dev : Int)]
theorem size_any {w : World} {F : Nat → Prop} {a : Nat} {pm : PM} {dev n : Nat} {H ws : List (List UInt8)} (hp : PlantAt w F a pm) (hok : pm.Ok) (hlow : pm.Low) (ht : TapeP pm dev n H ws) :
    Calls Tryd.prog 38 #[tapeV a dev] w fun e w' => e = .returned (.int .i64 ((H.length + ws.length : Nat) : Int)) ∧ Below w.heap.size w w' := by
  have hb := below_al' (w := w) (.cells #[.pointer (some ⟨a, 0, none⟩), .int .i64 (dev : Int)] 89)
  have hl := len_any (hp.below hb) hok hlow (dev : Int)
  rw [ht.len] at hl
  have HL := Lib.hid hl
  have HB := Lib.hid hb
  clear hp hok hlow ht hl hb
  generalize H.length + ws.length = q at *
  show Calls Tryd.prog 38 #[.agg #[.pointer (some ⟨a, 0, none⟩), .int .i64 (dev : Int)]] w _
  go_enter Tryd.func38, Tryd.ntmps38
  go_wp2_with fail
  refine HL.out.mono ?_
  rintro e w1 ⟨rfl, k1, hw1⟩
  have HB1 : Hid (Below w.heap.size w w1) := Lib.hid (HB.out.trans (by rw [hw1]; exact below_drewN (Below.refl _ _) k1 |>.mono HB.out.size))
  clear hw1 HL
  go_wp2_with fail
  go_ret
  exact ⟨rfl, HB1.out⟩
theorem most_any {w : World} {F : Nat → Prop} {a : Nat} {pm : PM} {dev j n : Nat} (hp : PlantAt w F a pm) (hok : pm.Ok) (hd : pm.disks.length + j = dev) (hj : pm.tapes[j]? = some n) (hdev : dev ≤ 1000000) :
    Calls Tryd.prog 43 #[tapeV a dev] w fun e w' => e = .returned (.int .i64 (n : Int)) ∧ Below w.heap.size w w' := by
  have hb := below_al' (w := w) (.cells #[.pointer (some ⟨a, 0, none⟩), .int .i64 (dev : Int)] 89)
  have hk := Blk.new w 89 #[.pointer (some ⟨a, 0, none⟩), .int .i64 (dev : Int)]
  have HS := Lib.hid (shape_any (hp.below hb) hok)
  have HB := Lib.hid hb
  have HK := Lib.hid hk
  have HJ := Lib.hid hj
  obtain ⟨q, hq⟩ : ∃ q, pm.disks.length = q := ⟨_, rfl⟩
  have HQ := Lib.hid hq
  have hjl : j < pm.tapes.length := (List.getElem?_eq_some_iff.1 hj).1
  rw [hq] at hd
  have hw1 : IntKind.i64.wrap ((dev : Int) - (q : Int)) = (j : Int) := by rw [show (dev : Int) - (q : Int) = (j : Int) by omega]; exact IntWalk.i64_in _ (by omega)
  have hjN : decide (j < pm.tapes.length) = true := decide_eq_true hjl
  clear hp hok hb hk hj hq
  show Calls Tryd.prog 43 #[.agg #[.pointer (some ⟨a, 0, none⟩), .int .i64 (dev : Int)]] w _
  go_enter Tryd.func43, Tryd.ntmps43
  go_wp2_with fail
  refine HS.out.mono ?_
  rintro e w1 ⟨D, T, rfl, hD, hT, hb1⟩
  obtain ⟨AD, cD, rfl⟩ := hD.shape
  obtain ⟨AT, cT, rfl⟩ := hT.shape
  obtain ⟨g, hAT, hc⟩ := hT.cell j (natV n) (by rw [List.getElem?_map, HJ.out]; rfl)
  have hk1 := HK.out.below_ hb1
  have hba := below_al' (w := w1) (.cells #[.slice AD pm.disks.length cD, .slice AT pm.tapes.length cT] 30)
  have k1 : (w1.alloc (.cells #[.slice AD pm.disks.length cD, .slice AT pm.tapes.length cT] 30)).cell? ⟨w.heap.size, 1, none⟩ = some (.int .i64 (dev : Int)) := by rw [(hk1.below_ hba).cell]; rfl
  obtain ⟨ad, had, hca⟩ : ∃ ad, AT = some ad ∧ (w1.alloc (.cells #[.slice AD pm.disks.length cD, .slice AT pm.tapes.length cT] 30)).cell? (ad.add j) = some (.int .i64 (n : Int)) :=
    ⟨_, hAT, by rw [add_off]; simpa [natV] using (hba.cell (cell_lt hc)).trans hc⟩
  have HB1 := Lib.hid (HB.out.trans (hb1.mono HB.out.size))
  have HBA := Lib.hid hba
  clear hD hT hb1 hAT hc hk1 hba HS
  rw [HQ.out] at *
  subst had
  go_wp2_with fail
  go_ret
  exact ⟨rfl, HB1.out.trans (HBA.out.mono HB1.out.size)⟩
/-- A volume in memory. -/
def VolB (w : World) (v a dev : Nat) : Prop := Blk w v 91 #[.pointer (some ⟨a, 0, none⟩), .int .i64 (dev : Int)]
theorem vopen_any {w : World} {F : Nat → Prop} {a : Nat} {pm : PM} (dev : Int) (hp : PlantAt w F a pm) (hok : pm.Ok) :
    Calls Tryd.prog 10 #[.pointer (some ⟨a, 0, none⟩), .int .i64 dev] w fun e w' => Below w.heap.size w w' ∧
      ((¬ ((pm.disks.length : Int) ≤ dev ∧ dev < ((pm.disks.length + pm.tapes.length : Nat) : Int)) ∧ e = .returned (.tuple #[.pointer none, .int .i64 1])) ∨
       (∃ (v d : Nat), dev = (d : Int) ∧ pm.disks.length ≤ d ∧ d < pm.disks.length + pm.tapes.length ∧ e = .returned (.tuple #[.pointer (some ⟨v, 0, none⟩), .int .i64 0]) ∧ w.heap.size ≤ v ∧ VolB w' v a d)) := by
  have HS := Lib.hid (shape_any hp hok)
  obtain ⟨q, hq⟩ : ∃ q, pm.disks.length = q := ⟨_, rfl⟩
  obtain ⟨r, hr⟩ : ∃ r, pm.tapes.length = r := ⟨_, rfl⟩
  have hq12 : q ≤ 1000000 ∧ r ≤ 1000000 := by
    have h1 := hok.shape
    have h2 := hok.n12
    omega
  rw [hq, hr]
  have HQ := Lib.hid (⟨hq, hr⟩ : _ ∧ _)
  have hw1 : IntKind.i64.wrap ((q : Int) + (r : Int)) = ((q + r : Nat) : Int) := by rw [show (q : Int) + (r : Int) = ((q + r : Nat) : Int) by omega]; exact IntWalk.i64_in _ (by omega)
  obtain ⟨s, hs⟩ : ∃ s, q + r = s := ⟨_, rfl⟩
  rw [hs] at hw1 ⊢
  have HSs := Lib.hid hs
  clear hp hok hq hr hs
  go_enter Tryd.func10, Tryd.ntmps10
  go_wp2_with fail
  refine HS.out.mono ?_
  rintro e w1 ⟨D, T, rfl, hD, hT, hb1⟩
  obtain ⟨AD, cD, rfl⟩ := hD.shape
  obtain ⟨AT, cT, rfl⟩ := hT.shape
  have HB1 := Lib.hid hb1
  clear hD hT hb1 HS
  rw [HQ.out.1, HQ.out.2]
  by_cases h1 : dev < (q : Int)
  · go_wp2_with fail
    go_ret2
    exact ⟨HB1.out.alloc HB1.out.size _, .inl ⟨by omega, rfl⟩⟩
  · by_cases h2 : (s : Int) ≤ dev
    · go_wp2_with fail
      go_ret2
      exact ⟨HB1.out.alloc HB1.out.size _, .inl ⟨by omega, rfl⟩⟩
    · obtain ⟨d, hd⟩ : ∃ d : Nat, dev = (d : Int) := ⟨dev.toNat, by omega⟩
      subst hd
      have hx := (HB1.out.alloc HB1.out.size (.cells #[.slice AD q cD, .slice AT r cT] 30)).alloc (by simpa using Nat.le_succ_of_le HB1.out.size) (.cells #[.pointer (some ⟨a, 0, none⟩), .int .i64 (d : Int)] 91)
      have hv := Blk.new (w1.alloc (.cells #[.slice AD q cD, .slice AT r cT] 30)) 91 #[.pointer (some ⟨a, 0, none⟩), .int .i64 (d : Int)]
      have HX := Lib.hid (⟨hx, hv⟩ : _ ∧ _)
      have HD := Lib.hid (⟨h1, h2⟩ : _ ∧ _)
      clear hx hv
      go_wp2_with fail
      go_ret2
      exact ⟨HX.out.1, .inr ⟨w1.heap.size + 1, d, rfl, by omega, by have := HSs.out; omega, rfl, by have := HB1.out.size; omega, by simpa [VolB] using HX.out.2⟩⟩
end Go.Proofs.YtloffgoenaomkaaDoor.Col
/- A row copied onto an empty one. Over any program. No program's function is walked here. -/
namespace Go.Proofs.YtloffgoenaomkaaDoor.Mem
open Go Go.RowKit Pl
section
variable {P : Program} {F F' G : Nat → Prop} {w w' w1 : World} {e : TypeId} {size n : Nat} {v : Value} {xs : List Value}
/-- 'append' onto such a slice; where what comes out lies. -/
theorem run_append_vec2 (t ty : TypeId) (bytes : Nat) (z : Value) (T : ElTy P t e size bytes z) (hv : Vec w F e size v n xs)
    (ad : Addr) (m d : Nat) (news : List Value) (hl : news.length = m * size) (hnews : ∀ j u, news[j]? = some u → w.cell? (ad.add j) = some u) (h1 : ∀ u ∈ news, u.oneCell' = true)
    (hm : n + m ≤ maxLen) (hbytes : (n + m) * bytes ≤ 140737488355328) (hm0 : 0 < m) :
    ∃ v' w' row, (Builtin.append_ #[t, t] ty #[v, .slice (some ad) m d]).run P w = .ok v' w' ∧ Vec w' (Grow F w w') e size v' (n + m) (xs ++ news) ∧ w.grownBy w' row ∧
      (row = none ∨ ∃ g cs, row = some g ∧ F g ∧ w.heap[g]? = some (.cells cs e (0, 0)) ∧ v.ownBlock = some g) ∧ (v'.ownBlock = v.ownBlock ∨ v'.ownBlock = some w.heap.size) := by
  obtain ⟨i, hi, hz, hs, hby⟩ := T.info
  obtain ⟨A, cap, rfl, hlen, ⟨rfl, rfl⟩ | ⟨g, cur, rfl, hf, hh, hnc, hcm, hcs, htk⟩⟩ := hv
  · have hx : xs = [] := List.eq_nil_of_length_eq_zero (by simpa using hlen)
    subst hx
    rcases A with _ | ⟨ad0⟩
    · obtain ⟨v', w', hrun, h2, h3, _, h5⟩ := run_append_own_at (P := P) w w.heap.size t ty e i z size bytes T.ht hi hz hs hby T.hz T.h0 (.slice none 0 0) 0 [] (World.ownsRow_nil w _ e size) ad m d news hl hnews h1 (by omega) (by simpa using hbytes) (Nat.le_refl _)
      have hA : ∃ A' c', v' = .slice A' (0 + m) c' := by
        rcases h2.2 with ⟨h, h0⟩ | ⟨g, cap, cur, h, _⟩
        · exact ⟨none, 0, by rw [h, h0]⟩
        · exact ⟨_, _, h⟩
      obtain ⟨A', c', rfl⟩ := hA
      exact ⟨_, w', none, hrun, Vec.of_own h2 (fun g hg hg' => .inr ⟨hg, hg'⟩), h3, .inl rfl, h5⟩
    · subst hs hby
      have hr := run_append_grow (P := P) w t ty e i z T.ht hi hz ad0 0 0 [] (by simp) (by simp) ad m d news hl hnews (by omega) (by unfold maxLen at hm; omega) (growslice_fits (by omega) (by simpa using hbytes))
      refine ⟨_, _, none, hr, ?_, ⟨rfl, rfl, rfl, by simp, fun k hk _ => Below.heap_alloc w.drew _ k hk⟩, .inl rfl, .inr rfl⟩
      have hge := grownCap_ge w (0 + m) 0 e
      have hcm : grownCap w (0 + m) 0 e ≤ maxLen := grownCap_le_maxLen w (0 + m) 0 e hm
      refine ⟨_, _, rfl, by simpa using hl, .inr ⟨w.heap.size, _, rfl, .inr ⟨Nat.le_refl _, by simp⟩, heap_alloc_new w.drew _, hge, hcm, ?_, ?_⟩⟩
      · simp only [Array.size_append, List.size_toArray, size_zeroCells, T.hz, hl, List.length_nil, Nat.zero_add, ← Nat.add_mul]
        congr 1
        simp only [Nat.zero_add] at hge ⊢
        omega
      · simp only [Array.toList_append, List.nil_append, Nat.zero_add]
        rw [← hl]
        exact List.take_left
  · obtain ⟨v', w', hrun, h2, h3, _, h5⟩ := run_append_own_at (P := P) w (min g w.heap.size) t ty e i z size bytes T.ht hi hz hs hby T.hz T.h0 (.slice (some ⟨g, 0, none⟩) n cap) n xs
      ⟨hlen, .inr ⟨g, cap, cur, rfl, Nat.min_le_left _ _, hh, hnc, hcm, hcs, htk⟩⟩ ad m d news hl hnews h1 hm hbytes (Nat.min_le_right _ _)
    refine ⟨v', w', some g, hrun, ?_, h3, .inr ⟨g, cur, rfl, hf, hh, rfl⟩, h5⟩
    rcases h2.2 with ⟨h, h0⟩ | ⟨g', cap', cur', h, _, hh', hr⟩
    · subst h
      exact ⟨none, 0, by rw [h0], h2.1, .inl ⟨h0, rfl⟩⟩
    · subst h
      refine ⟨_, _, rfl, h2.1, .inr ⟨g', cur', rfl, ?_, hh', hr⟩⟩
      have hlt := (Array.getElem?_eq_some_iff.1 hh').1
      rcases h5 with h5 | h5
      · simp [Value.ownBlock] at h5
        subst h5
        exact .inl hf
      · simp [Value.ownBlock] at h5
        subst h5
        exact .inr ⟨Nat.le_refl _, hlt⟩
end
/-- A row copied onto an empty one. -/
theorem wpList_copy_vec {P : Program} {w : World} {F : Nat → Prop} {e : TypeId} {size n : Nat} {xs : List Value} {ops : Array Oper} {rest : List Oper} {o : Oper} {a : Act} {Q : Exit → Act → World → Prop} (hgd : o.guard = none) (s x : Operand) (t : TypeId)
    (ho : o.op = .call { callee := .builtin .append, args := #[s, x], argTypes := #[t, t] }) (bytes : Nat) (z : Value) (T : ElTy P t e size bytes z)
    (D : Option Addr) (hs : a.eval s = .slice D 0 0) (A : Option Addr) (c : Nat) (hx : a.eval x = .slice A n c) (hv : Vec w F e size (.slice A n c) n xs) (h1 : ∀ u ∈ xs, u.oneCell' = true) (hm : n ≤ maxLen) (hbytes : n * bytes ≤ 140737488355328)
    (h : ∀ (A' : Option Addr) (k' : Nat) (w' : World), Vec w' (New w w') e size (.slice A' n k') n xs → Below w.heap.size w w' → ((Value.slice A' n k').ownBlock = (Value.slice D 0 0).ownBlock ∨ (Value.slice A' n k').ownBlock = some w.heap.size ∧ w.heap.size < w'.heap.size) → wpList P ops Q rest (a.put o.dst (.slice A' n k')) w') : wpList P ops Q (o :: rest) a w :=
  wpList_plain hgd fun _ hK => by
    unfold Oper.wp execOp
    by_cases hn : n = 0
    · subst hn
      have hx0 : xs = [] := List.eq_nil_of_length_eq_zero (by have := hv.len; simpa using this)
      subst hx0
      obtain ⟨i, hi, hz, hsz, hby⟩ := T.info
      have hrun : (Builtin.append_ #[t, t] o.type #[.slice D 0 0, .slice A 0 c]).run P w = .ok (.slice D 0 0) w := by
        cases D <;> cases A <;> simp [Builtin.append_, run_underlying T.ht, sizeOf, typeInfo, hi, Builtin.lenOf, Builtin.firstCells, loadCells, loadCellsFrom, storeCells]
      simp only [ho, resolve, invoke, builtin, Sem.run_bind, Sem.run_pure, Result.andThen_ok, List.map_toArray, List.map_cons, List.map_nil, hs, hx, hrun]
      exact hK _ _ (h D 0 w (Vec.nil_ _ _ _ _ _) (Below.refl _ _) (.inl rfl))
    · obtain ⟨g, cap, cur, he, hf, hh, hnc, hcm, hcs, htk⟩ := hv.form (by omega)
      injection he with hA _ hc
      subst hA hc
      have hnews : ∀ j u, xs[j]? = some u → w.cell? ((⟨g, 0, none⟩ : Addr).add j) = some u := fun j u hu => by
        have := hv.at_ hu
        have e : (Addr.add ⟨g, 0, none⟩ j) = ⟨g, j, none⟩ := by
          unfold Addr.add
          split
          · rename_i h; subst h; rfl
          · simp
        rw [e]
        exact this
      obtain ⟨v', w', row, hrun, h2, h3, h4, h5⟩ := run_append_vec2 (P := P) t o.type bytes z T (Vec.nil_ w (fun _ => False) e size D) ⟨g, 0, none⟩ n c xs (by rw [hv.len]) hnews h1 (by omega) (by simpa using hbytes) (by omega)
      have hrow : row = none := by
        rcases h4 with h4 | ⟨g', cs, _, hf', _⟩
        · exact h4
        · exact hf'.elim
      subst hrow
      rw [Nat.zero_add, List.nil_append] at h2
      obtain ⟨A', k', rfl⟩ := h2.shape
      have hbw : Below w.heap.size w w' := (Below.refl _ _).grown h3 (Nat.le_refl _) fun g hg' => by cases hg'
      simp only [ho, resolve, invoke, builtin, Sem.run_bind, Sem.run_pure, Result.andThen_ok, List.map_toArray, List.map_cons, List.map_nil, hs, hx, hrun]
      refine hK _ _ (h A' k' w' (h2.mono fun g _ hg => ?_) hbw ?_)
      · rcases hg with hg | hg
        · exact hg.elim
        · exact hg
      · rcases h5 with h5 | h5
        · exact .inl h5
        · refine .inr ⟨h5, ?_⟩
          obtain ⟨g2, cap2, cur2, he2, hf2, hh2, _⟩ := h2.form (by omega)
          injection he2 with he2
          subst he2
          injection h5 with h5
          subst h5
          exact (Array.getElem?_eq_some_iff.1 hh2).1
end Go.Proofs.YtloffgoenaomkaaDoor.Mem
/- Layer 15 (coldvol): a block of a tape, written; and told. -/
namespace Go.Proofs.YtloffgoenaomkaaDoor.Col
open Go Go.RowKit Mem Pl Disk Crc _root_.Go.Proofs.YtloffgoenaomkaaDoor.Frame
/-- A block's first 60 bytes; the block. -/
def bodyM (t b : List UInt8) : List UInt8 := t ++ b ++ List.replicate (56 - b.length) 0
def blkM (t b : List UInt8) : List UInt8 := bodyM t b ++ beB ((more 0#32 (bodyM t b)).toNat % 16777216) 3 ++ [165]
theorem bodyM_len {t b : List UInt8} (ht : t.length = 4) (hb : b.length ≤ 56) : (bodyM t b).length = 60 := by
  unfold bodyM
  simp
  omega
theorem blkM_len {t b : List UInt8} (ht : t.length = 4) (hb : b.length ≤ 56) : (blkM t b).length = 64 := by
  unfold blkM
  simp [bodyM_len ht hb, beB_length]
/-- What is read out of a block that must have a tag. -/
def readM (c want : List UInt8) : Option (List UInt8) :=
  if c.take 4 = want ∧ be ((c.drop 60).take 3) = (more 0#32 (c.take 60)).toNat % 16777216 ∧ c.getD 63 0 = 165 then some ((c.drop 4).take 56) else none
theorem readM_blkM {t b : List UInt8} (ht : t.length = 4) (hb : b.length ≤ 56) (want : List UInt8) : readM (blkM t b) want = if t = want then some (b ++ List.replicate (56 - b.length) 0) else none := by
  have h60 := bodyM_len ht hb
  have e1 : (blkM t b).take 4 = t := by
    unfold blkM bodyM
    simp [List.append_assoc, ht]
  have e2 : (blkM t b).take 60 = bodyM t b := by
    unfold blkM
    rw [List.append_assoc, List.take_append, h60]
    simp [List.take_of_length_le (Nat.le_of_eq h60)]
  have e3 : ((blkM t b).drop 60).take 3 = beB ((more 0#32 (bodyM t b)).toNat % 16777216) 3 := by
    unfold blkM
    rw [List.append_assoc, List.drop_append, h60]
    simp [List.drop_of_length_le (Nat.le_of_eq h60), beB_length]
  have e4 : (blkM t b).getD 63 0 = 165 := by
    unfold blkM
    rw [List.getD_eq_getElem?_getD, List.getElem?_append_right (by simp [h60, beB_length])]
    simp [h60, beB_length]
  have e5 : ((blkM t b).drop 4).take 56 = b ++ List.replicate (56 - b.length) 0 := by
    have : (blkM t b).drop 4 = (b ++ List.replicate (56 - b.length) 0) ++ (beB ((more 0#32 (bodyM t b)).toNat % 16777216) 3 ++ [165]) := by
      unfold blkM
      generalize more 0#32 (bodyM t b) = m
      unfold bodyM
      rw [List.append_assoc, List.append_assoc, List.append_assoc, List.drop_append]
      simp [ht, List.drop_of_length_le]
    rw [this, List.take_append]
    have hl : (b ++ List.replicate (56 - b.length) 0).length = 56 := by simp; omega
    rw [hl, List.take_of_length_le (Nat.le_of_eq hl)]
    simp
  unfold readM
  rw [e1, e2, e3, e4, e5, be_beB, Nat.mod_mod_of_dvd _ (by decide)]
  simp
theorem and_low (x : BitVec 32) : bits .and .u32 (U x) 16777215 = ((x.toNat % 16777216 : Nat) : Int) := by
  show IntKind.u32.wrap ((BitVec.ofInt 32 (x.toNat : Int) &&& BitVec.ofInt 32 16777215).toNat : Int) = _
  have h1 : (BitVec.ofInt 32 16777215).toNat = 16777215 := by decide
  have h2 : ∀ n : Nat, n &&& 16777215 = n % 16777216 := fun n => Nat.and_two_pow_sub_one_eq_mod n 24
  have hx := x.isLt
  rw [BitVec.toNat_and, h1, h2, BitVec.toNat_ofInt, IntKind.wrap_u32]
  have h3 : ((x.toNat : Int) % (2 ^ 32 : Nat)).toNat = x.toNat := by
    have : (2 ^ 32 : Nat) = 4294967296 := by decide
    rw [this]
    omega
  rw [h3]
  omega
theorem run_tagAll (g : Nat) (W : World) : (Instr.sliceAt 97 (.pointer (some ⟨g, 0, none⟩)) none none none).run Tryd.prog W = .ok (.slice (some ⟨g, 0, none⟩) 4 4) W := by
  obtain ⟨i, hi, hz, hs, hby⟩ := info_parts Pl.byteTy.hi
  simp [Instr.sliceAt, Instr.sureAddr, run_underlying (show Tryd.prog.underlying 97 = some (.array 4 5) from Tryd.underlying97), Instr.sliceBounds, sizeOf, typeInfo, hi, add_off]
set_option maxRecDepth 100000 in
set_option maxHeartbeats 2000000 in
theorem block_any {w : World} (t : List UInt8) (ht : t.length = 4) (A : Option Addr) (m d : Nat) (b : List UInt8) (hb : BAt w A b) (hm : b.length = m) (h56 : m ≤ 56) (hnil : A = none → d = 0) (htab : Tab w) (hn : 0 < w.heap.size) :
    Calls Tryd.prog 40 #[.agg (cellsOf t), .slice A m d] w fun e w' => ∃ g, e = .returned (.slice (some ⟨g, 0, none⟩) 64 64) ∧ w.heap.size ≤ g ∧ Blk w' g 5 (cellsOf (blkM t b)) ∧ Below w.heap.size w w' := by
  have hb1 := below_al' (w := w) (.cells (cellsOf t) 97)
  have hk1 := Blk.new w 97 (cellsOf t)
  have hb2 := hb1.alloc (by simp : w.heap.size ≤ _) (.cells (zeros.map B8).toArray 5)
  have hk2 : Blk ((w.alloc (.cells (cellsOf t) 97)).alloc (.cells (zeros.map B8).toArray 5)) (w.heap.size + 1) 5 (cellsOf zeros) := by
    have := Blk.new (w.alloc (.cells (cellsOf t) 97)) 5 (zeros.map B8).toArray
    simp only [World.size_alloc] at this
    exact this
  have hk1' := hk1.alloc (.cells (zeros.map B8).toArray 5)
  have HB2 := Lib.hid hb2
  have HK2 := Lib.hid hk2
  have HT2 := Lib.hid (Blk.bat (bs := t) hk1')
  have HZ2 : Hid (((w.alloc (.cells (cellsOf t) 97)).alloc (.cells (zeros.map B8).toArray 5)).heap.size = w.heap.size + 2) := Lib.hid (by simp)
  have HAK : Hid (∀ w', Below w.heap.size w w' → BAt w' A b) := Lib.hid fun w' h => hb.below h
  have HTB := Lib.hid (⟨htab, hn⟩ : _ ∧ _)
  have hmk := run_make64
  have hcut := run_tagAll
  have hc1 := fun g W => run_cut_l (P := Tryd.prog) 38 5 Pl.byteTy (some ⟨g, 0, none⟩) 64 64 .i64 4 4 rfl (by decide) W
  have hc2 := fun g W => run_cut_h (P := Tryd.prog) 38 5 Pl.byteTy (some ⟨g, 0, none⟩) 64 64 .i64 60 60 rfl (by decide) W
  have hc3 := fun g W => run_cut_l (P := Tryd.prog) 38 5 Pl.byteTy (some ⟨g, 0, none⟩) 64 64 .i64 60 60 rfl (by decide) W
  simp only [cutA, (by decide : ¬ (64 = 4)), (by decide : ¬ (64 = 60)), if_false, Option.map_some, add_off, Nat.zero_add] at hc1 hc3
  have h4s : (cellsOf t).size = 4 := by simp [cellsOf, ht]
  have HM := Lib.hid hm
  have HL := Lib.hid ht
  have HN := Lib.hid hnil
  clear hb1 hk1 hb2 hk2 hk1' hb htab hn
  obtain ⟨w3, hr3, hk3, hg3, hz3⟩ := run_copy_bytes (P := Tryd.prog) 38 5 3 Pl.byteTy (w.heap.size + 1) 0 64 64 _ zeros HK2.out (some ⟨w.heap.size, 0, none⟩) 4 4 t HT2.out ht 4 (by decide) (by rw [zeros_len]; omega) (fun h => by cases h)
  have e3 : List.take 0 zeros ++ List.take 4 t ++ List.drop (0 + 4) zeros = t ++ List.drop 4 zeros := by rw [List.take_of_length_le (l := t) (Nat.le_of_eq ht)]; rfl
  rw [e3] at hk3
  have hb3 := HB2.out.grown hg3 HB2.out.size (fun k hk => by injection hk with hk; omega)
  have hl3 : (t ++ List.drop 4 zeros).length = 64 := by simp [ht, zeros_len]
  obtain ⟨w4, hr4, hk4, hg4, hz4⟩ := run_copy_bytes (P := Tryd.prog) 38 5 3 Pl.byteTy (w.heap.size + 1) 4 60 60 _ (t ++ List.drop 4 zeros) hk3 A m d b (HAK.out w3 hb3) hm m (Nat.min_eq_left (by omega)).symm (by rw [hl3]; omega) hnil
  have e4 : List.take 4 (t ++ List.drop 4 zeros) ++ List.take m b ++ List.drop (4 + m) (t ++ List.drop 4 zeros) = bodyM t b ++ List.replicate 4 0 := by
    rw [List.take_append, List.drop_append, ht, List.take_of_length_le (l := t) (Nat.le_of_eq ht), List.take_of_length_le (l := b) (Nat.le_of_eq hm), List.drop_of_length_le (l := t) (by omega)]
    have hz : List.drop (4 + m - t.length) (List.drop 4 zeros) = List.replicate (56 - m) 0 ++ List.replicate 4 0 := by
      show List.drop _ (List.drop 4 (List.replicate 64 0)) = _
      rw [List.drop_replicate, List.drop_replicate, List.replicate_append_replicate, ht]
      congr 1
      omega
    rw [ht] at hz
    rw [hz]
    unfold bodyM
    rw [hm]
    simp only [Nat.sub_self, List.take_zero, List.append_nil, List.nil_append, List.append_assoc]
  rw [e4] at hk4
  have hb4 := hb3.grown hg4 hb3.size (fun k hk => by injection hk with hk; omega)
  have hbl := bodyM_len (t := t) (b := b) ht (by omega)
  have HS := Lib.hid (sum_any (some ⟨w.heap.size + 1, 0, none⟩) (bodyM t b) 60 64 w4 hbl (by omega) (by have := (hk4.bat).take 60; rwa [List.take_append, hbl, List.take_of_length_le (Nat.le_of_eq hbl), Nat.sub_self, List.take_zero, List.append_nil] at this) (HTB.out.1.below hb4 HTB.out.2))
  have HK4 := Lib.hid hk4
  have HB4 := Lib.hid hb4
  have HBL := Lib.hid hbl
  have hand := and_low (more 0#32 (bodyM t b))
  clear hk3 hg3 hz3 e3 hb3 hl3 hk4 hg4 hz4 e4 hb4 hbl hm ht hnil HK2 HB2 HT2 HZ2 HAK
  go_enter Tryd.func40, Tryd.ntmps40
  go_wp2_with fail
  refine HS.out.mono ?_
  rintro e _ ⟨rfl, rfl⟩
  have hlt : (more 0#32 (bodyM t b)).toNat % 16777216 < 16777216 := Nat.mod_lt _ (by decide)
  have HPK : Hid (blkM t b = bodyM t b ++ beB ((more 0#32 (bodyM t b)).toNat % 16777216) 3 ++ [165]) := Lib.hid rfl
  generalize (more 0#32 (bodyM t b)).toNat % 16777216 = s at *
  clear HS
  go_wp2_with fail
  refine (number_yes none [] 0 0 s 3 _ rfl (by omega) (BAt.nil_ _ _) (by omega) (by omega) (by omega)).mono ?_
  rintro e w5 ⟨A5, N5, c5, rfl, ho, hbw⟩
  have hl5 := ho.len
  rw [List.nil_append, beB_length] at hl5
  obtain rfl : N5 = 3 := by omega
  have hnil5 : A5 = none → c5 = 0 := fun h0 => by
    rcases ho.form with ⟨_, h1, _⟩ | ⟨g, h1, _⟩
    · omega
    · rw [h0] at h1; cases h1
  have hk5 := HK4.out.below_ hbw
  have hb5 := HB4.out.trans (hbw.mono HB4.out.size)
  obtain ⟨w6, hr6, hk6, hg6, hz6⟩ := run_copy_bytes (P := Tryd.prog) 38 5 3 Pl.byteTy (w.heap.size + 1) 60 4 4 _ _ hk5 A5 3 c5 _ ho.bat (by rw [List.nil_append, beB_length]) 3 (by decide) (by simp [HBL.out]) hnil5
  have e6 : List.take 60 (bodyM t b ++ List.replicate 4 0) ++ List.take 3 ([] ++ beB s 3) ++ List.drop (60 + 3) (bodyM t b ++ List.replicate 4 0) = bodyM t b ++ beB s 3 ++ [0] := by
    rw [List.take_append, List.drop_append, HBL.out, List.take_of_length_le (l := bodyM t b) (Nat.le_of_eq HBL.out), List.nil_append, List.take_of_length_le (l := beB s 3) (by rw [beB_length]; omega), List.drop_of_length_le (l := bodyM t b) (by rw [HBL.out]; omega)]
    simp
  rw [e6] at hk6
  have hb6 := hb5.grown hg6 hb5.size (fun k hk => by injection hk with hk; omega)
  have hby := hk6.byte (k := 63) (by simp [HBL.out, beB_length])
  have hfr := hk6.frozen 63
  have hst := hk6.setByte 63 165
  have e7 : (bodyM t b ++ beB s 3 ++ [0]).set 63 165 = blkM t b := by
    rw [HPK.out, List.set_append]
    simp [HBL.out, beB_length]
  rw [e7] at hst
  have HST := Lib.hid hst
  have HB6 := Lib.hid (hb6.setCell (p := ⟨w.heap.size + 1, 63, none⟩) (by show w.heap.size ≤ w.heap.size + 1; omega) (.int .u8 (V8 165)))
  clear hk5 hb5 ho hbw hk6 hg6 hz6 e6 hb6 hst e7 HK4 HB4 hl5 hnil5
  have hv : V8 165 = 165 := rfl
  rw [hv] at HST HB6
  go_wp2_with fail
  go_ret
  exact ⟨w.heap.size + 1, rfl, by omega, HST.out, HB6.out⟩
end Go.Proofs.YtloffgoenaomkaaDoor.Col
