/- What the laws of the plant share: 'full', 'same', a plant within a law (St), rows held beside it (Held). -/
import Derived.Test.YtlnfeehokpkgiaaDoorFold5
import Derived.Test.YtlnfeehokpkgiaaDoorPlNew
import Derived.Test.YtlnfeehokpkgiaaDoorPlBoot
import Derived.WalkLawsBesides
import Derived.Stop.BytesEq
import Derived.Test.YtlnfeehokpkgiaaDoorRows
import Derived.Test.YtlnfeehokpkgiaaDoorFold0
import Derived.WalkKit
import Derived.Lib.Hide
import Derived.WalkSpells
import Derived.BigQuiet
import Derived.Deep.QuietTactic
import Derived.Deep.RegionHeld3
import Derived.Deep.DrawnRows
import Derived.Test.YtlnfeehokpkgiaaDoorFold2
import Derived.Lib.AppendZerosOnto
namespace Go.Proofs.YtlnfeehokpkgiaaDoor.Pl
open Go Go.RowKit Mem
theorem strTy : Tryd.prog.underlying 9 = some .string := Tryd.underlying9
/-- A sector of one byte. -/
def fullB (c : UInt8) : List UInt8 := List.replicate 64 c
theorem fullB_len (c : UInt8) : (fullB c).length = 64 := by simp [fullB]
theorem fullB_set (c : UInt8) (k : Nat) (h : k < 64) : (List.replicate k c ++ List.replicate (64 - k) (0 : UInt8)).set k c = List.replicate (k + 1) c ++ List.replicate (64 - (k + 1)) 0 := by
  refine List.ext_getElem? fun i => ?_
  rw [List.getElem?_set]
  simp only [List.length_append, List.length_replicate, List.getElem?_append, List.getElem?_replicate]
  rcases Nat.lt_trichotomy i k with h1 | h1 | h1
  · rw [if_neg (by omega), if_pos h1, if_pos h1, if_pos (by omega), if_pos (by omega)]
  · subst h1
    rw [if_pos rfl, if_pos (by omega), if_pos (by omega), if_pos (by omega)]
  · have e : (i - k < 64 - k) ↔ (i - (k + 1) < 64 - (k + 1)) := by omega
    have h2 : ¬ k = i := by omega
    have h3 : ¬ i < k := by omega
    have h4 : ¬ i < k + 1 := by omega
    simp only [h2, h3, h4, if_false, e]
/-- The call gives back a sector of its own. -/
def RetF (w : World) (b : List UInt8) (e : Ending) (w' : World) : Prop :=
  ∃ g, e = .returned (.slice (some ⟨g, 0, none⟩) 64 64) ∧ Own w' w.heap.size 5 (some ⟨g, 0, none⟩) 64 64 b ∧ Below w.heap.size w w'
def FullR (w : World) (c : UInt8) (iv : Value) (wr : World) : Prop :=
  ∃ k : Nat, k ≤ 64 ∧ iv = .int .i64 (k : Int) ∧ Below w.heap.size w wr ∧ Blk wr w.heap.size 5 (cellsOf (List.replicate k c ++ List.replicate (64 - k) 0))
/-- A plant within a law that began in a world of B blocks; so many calls have been made. -/
structure St (B : Nat) (w : World) (F : Nat → Prop) (a : Nat) (p : PM) (n : Nat) : Prop where
  at_ : PlantAt w F a p
  ok : p.Ok
  lt : ∀ g, F g → B ≤ g ∧ g < w.heap.size
  steps : p.steps ≤ n
  waits : p.waits.length ≤ n
/-- Bytes beside a plant. -/
def Held (w : World) (F : Nat → Prop) (A : Option Addr) (bs : List UInt8) : Prop := BAt w A bs ∧ ∀ ad, A = some ad → ¬ F ad.block ∧ ad.block < w.heap.size
section
variable {B : Nat} {w w' : World} {F G : Nat → Prop} {a c : Nat} {p q : PM} {n : Nat} {A : Option Addr} {bs : List UInt8}
theorem addr_block (ad : Addr) (k : Nat) : (ad.add k).block = ad.block := by unfold Addr.add; split <;> rfl
theorem Held.keep (h : Held w F A bs) (hk : ∀ ad, A = some ad → w'.heap[ad.block]? = w.heap[ad.block]?) (hs : w.heap.size ≤ w'.heap.size) (hG : ∀ ad, A = some ad → ¬ F ad.block → ad.block < w.heap.size → ¬ G ad.block) : Held w' G A bs :=
  ⟨h.1.keep fun ad k v hA _ hc => by
    have := hk ad hA
    simp only [World.cell?, addr_block] at hc ⊢
    rw [this]
    exact hc, fun ad hA => ⟨hG ad hA (h.2 ad hA).1 (h.2 ad hA).2, Nat.lt_of_lt_of_le (h.2 ad hA).2 hs⟩⟩
theorem Held.mods (h : Held w F A bs) (hm : Mods w.heap.size F w w') : Held w' (Grow F w w') A bs :=
  h.keep (fun ad hA => hm.keep _ (h.2 ad hA).2 (h.2 ad hA).1) hm.size fun ad _ hn hlt hg => by
    rcases hg with hg | hg
    · exact hn hg
    · omega
theorem Held.below (h : Held w F A bs) (hb : Below w.heap.size w w') : Held w' F A bs :=
  h.keep (fun ad hA => hb.block _ (h.2 ad hA).2) hb.size fun _ad _ hn _ => hn
theorem Held.of_own {base : Nat} {m k : Nat} (h : Own w base 5 A m k bs) (hF : ∀ g, F g → g < base) : Held w F A bs := ⟨h.bat, fun ad hA => by
  rcases h.form with ⟨h, _⟩ | ⟨g, h, h1, h2⟩
  · rw [h] at hA; cases hA
  · rw [h] at hA
    injection hA with hA
    subst hA
    exact ⟨fun hf => by have := hF g hf; omega, h2⟩⟩
theorem Held.nil_ (w : World) (F : Nat → Prop) : Held w F none [] := ⟨BAt.nil_ _ _, fun ad h => by cases h⟩
theorem St.low (h : St B w F a p n) (hn : n ≤ 1000000000) : p.Low := ⟨by have := h.steps; omega, by have := h.waits; omega⟩
theorem St.below (h : St B w F a p n) (hb : Below w.heap.size w w') : St B w' F a p n := ⟨h.at_.below hb, h.ok, fun g hg => ⟨(h.lt g hg).1, Nat.lt_of_lt_of_le (h.lt g hg).2 hb.size⟩, h.steps, h.waits⟩
theorem St.next (h : St B w F a p n) (hB : B ≤ w.heap.size) (hp : PlantAt w' (Grow F w w') a q) (hm : Mods w.heap.size F w w') (hok : q.Ok) (h1 : q.steps ≤ p.steps + 1) (h2 : q.waits.length ≤ p.waits.length + 1) : St B w' (Grow F w w') a q (n + 1) :=
  ⟨hp, hok, fun g hg => by
    rcases hg with hg | hg
    · exact ⟨(h.lt g hg).1, Nat.lt_of_lt_of_le (h.lt g hg).2 hm.size⟩
    · exact ⟨Nat.le_trans hB hg.1, hg.2⟩, by have := h.steps; omega, by have := h.waits; omega⟩
/-- What such a call leaves. -/
def Gone (B : Nat) (w : World) (F : Nat → Prop) (a : Nat) (q : PM) (n : Nat) (w' : World) : Prop := St B w' (Grow F w w') a q (n + 1) ∧ Mods w.heap.size F w w'
theorem St.bel {W : World} (h : St B w F a p n) (hW : Below B W w) (hB : B ≤ w.heap.size) (hm : Mods w.heap.size F w w') : Below B W w' :=
  hW.trans ((hm.mono hB fun _ _ hf => hf).below fun k hk hf => by have := (h.lt k hf).1; omega)
theorem St.write (h : St B w F a p n) (hB : B ≤ w.heap.size) (hn : n ≤ 1000000000) (i k : Int) (A : Option Addr) (m cap : Nat) (b : List UInt8) (hb : BAt w A b) (hl : b.length = m) :
    Calls Tryd.prog 13 #[.pointer (some ⟨a, 0, none⟩), .int .i64 i, .int .i64 k, .slice A m cap] w fun e w' => e = .returned (.int .i64 (p.write i k b).2) ∧ Gone B w F a (p.write i k b).1 n w' :=
  (write_any h.at_ h.ok (h.low hn) i k A m cap b hb hl).mono fun _e _w' ⟨he, hp, hm⟩ => ⟨he, h.next hB hp hm (h.ok.write i k b) (PM.write_low p i k b).1 (PM.write_low p i k b).2, hm⟩
theorem St.flush (h : St B w F a p n) (hB : B ≤ w.heap.size) (hn : n ≤ 1000000000) (i : Int) :
    Calls Tryd.prog 35 #[.pointer (some ⟨a, 0, none⟩), .int .i64 i] w fun e w' => e = .returned (.int .i64 (p.flush i).2) ∧ Gone B w F a (p.flush i).1 n w' :=
  (flush_any h.at_ h.ok (h.low hn) i).mono fun _e _w' ⟨he, hp, hm⟩ => ⟨he, h.next hB hp hm (h.ok.flush i) (PM.flush_low p i).1 (Nat.le_succ_of_le (PM.flush_low p i).2), hm⟩
theorem St.setFuse (h : St B w F a p n) (hB : B ≤ w.heap.size) (i : Int) (hi : i < 9223372036854775808) :
    Calls Tryd.prog 23 #[.pointer (some ⟨a, 0, none⟩), .int .i64 i] w fun e w' => e = .returned (.tuple #[]) ∧ Gone B w F a (p.setFuse i) n w' :=
  (fuse_any h.at_ i).mono fun e w' ⟨he, hp, hm⟩ => ⟨he, h.next hB hp hm (h.ok.setFuse hi) (by rw [(PM.setFuse_low p i).1]; omega) (by rw [(PM.setFuse_low p i).2]; omega), hm⟩
theorem St.boot (h : St B w F a p n) (hB : B ≤ w.heap.size) (hn : n ≤ 1000000000) (AK : Option Addr) (nk ck : Nat) (keep : List Int) (hk : IAt w AK keep) (hkl : keep.length = nk) (hkn : keep ≠ [] → ∀ ad, AK = some ad → ¬ F ad.block) (hnk : nk ≤ 9223372036854775807) :
    Calls Tryd.prog 17 #[.pointer (some ⟨a, 0, none⟩), .slice AK nk ck] w fun e w' => e = .returned (.tuple #[]) ∧ Gone B w F a (p.boot keep) n w' :=
  (boot_any h.at_ h.ok (h.low hn) AK nk ck keep hk hkl hkn hnk).mono fun e w' ⟨he, hp, hm⟩ => ⟨he, h.next hB (hp.mono fun g _ hg => .inl hg) hm (h.ok.boot keep) (by rw [(PM.boot_low p keep).1]; omega) (by rw [(PM.boot_low p keep).2]; simp), hm⟩
theorem St.read (h : St B w F a p n) (hn : n ≤ 1000000000) (i k : Int) :
    Calls Tryd.prog 26 #[.pointer (some ⟨a, 0, none⟩), .int .i64 i, .int .i64 k] w fun e w' => ∃ A m cap, e = .returned (.tuple #[.slice A m cap, .int .i64 (p.read i k).2]) ∧ m = ((p.read i k).1.getD []).length ∧ Held w' F A ((p.read i k).1.getD []) ∧ Below w.heap.size w w' :=
  (read_any h.at_ h.ok (h.low hn) i k).mono fun _e _w' ⟨A, m, cap, he, ho, hb⟩ => ⟨A, m, cap, he, ho.len.symm, Held.of_own ho fun g hg => (h.lt g hg).2, hb⟩
theorem St.len (h : St B w F a p n) (hn : n ≤ 1000000000) (i : Int) :
    Calls Tryd.prog 58 #[.pointer (some ⟨a, 0, none⟩), .int .i64 i] w fun e w' => e = .returned (.tuple #[.int .i64 (p.len i).1, .int .i64 (p.len i).2]) ∧ Below w.heap.size w w' :=
  (len_any h.at_ h.ok (h.low hn) i).mono fun e w' ⟨he, k, hw⟩ => ⟨he, by rw [hw]; exact below_drewN (Below.refl _ _) k⟩
theorem St.new {o : PM} (h : PlantAt w' (New w w') a o) (hB : B ≤ w.heap.size) {zs1 zs2 : List Int} (hn : newM zs1 zs2 = some o) : St B w' (New w w') a o 0 := by
  obtain ⟨h1, _, h3, h4, _⟩ := newM_ok hn
  exact ⟨h, h1, fun g hg => ⟨Nat.le_trans hB hg.1, hg.2⟩, by rw [h3]; omega, by rw [h4]; simp⟩
end
end Go.Proofs.YtlnfeehokpkgiaaDoor.Pl
/- The walks of package crc and of its reference: each function once, over any bytes that are read in memory. -/
namespace Go.Proofs.YtlnfeehokpkgiaaDoor.Crc
open Go.RowKit Mem
/-- The table of sums lies where it was laid. -/
def Tab (w : World) : Prop := ∀ i, i < 16 → w.cell? ⟨0, i, none⟩ = some (.int .u32 (U (nib i)))
theorem Tab.below {w w' : World} {B : Nat} (h : Tab w) (hb : Below B w w') (hB : 0 < B) : Tab w' := fun i hi => (hb.cell (p := ⟨0, i, none⟩) hB).trans (h i hi)
theorem Tab.same {w w' : World} (h : Tab w) (hw : ∀ o, w'.cell? ⟨0, o, none⟩ = w.cell? ⟨0, o, none⟩) : Tab w' := fun i hi => (hw i).trans (h i hi)

section
attribute [local go_sem] xor_z8 and_15 xor_shr4 not_bv
set_option maxHeartbeats 400000 in
theorem more_walk (s : BitVec 32) (A : Option Addr) (bs : List UInt8) (cap : Nat) (w : World) (hl : bs.length ≤ 9223372036854775807) (hb : BAt w A bs) (ht : Tab w) :
    Calls Tryd.prog 45 #[.int .u32 (U s), .slice A bs.length cap] w fun e w' => e = .returned (.int .u32 (U (~~~ (bs.foldl byteT (~~~ s))))) ∧ w = w' := by
  have HB := Lib.hid hb
  have HT := Lib.hid ht
  clear hb ht
  go_enter Tryd.func45, Tryd.ntmps45
  go_wp2
  go_loop [5, 12] (fun r i => ∃ k : Nat, k ≤ bs.length ∧ i = .int .i64 k ∧ r = .int .u32 (U ((bs.take k).foldl byteT (~~~ s)))) (fun _ i => bs.length - (intOf i).toNat)
  case atStart => exact ⟨0, Nat.zero_le _, rfl, rfl⟩
  case round =>
    obtain ⟨k, hk, rfl, rfl⟩ := hrel
    by_cases hlt : k < bs.length
    · have hs : (bs.take (k + 1)).foldl byteT (~~~ s) = half (half ((bs.take k).foldl byteT (~~~ s) ^^^ z8 bs[k])) := by
        rw [List.take_succ_eq_append_getElem hlt, List.foldl_append]; rfl
      generalize hr : (bs.take k).foldl byteT (~~~ s) = r at *
      have H := Lib.hid hs
      clear hs hr
      obtain ⟨ad, rfl, hc⟩ := HB.out (by omega)
      have hcell : w.cell? (ad.add k) = some (.int .u8 (V8 (bs.getD k 0))) := hc k hlt
      have l1 := lo4_lt (r ^^^ z8 bs[k])
      have h1 := HT.out (lo4 (r ^^^ z8 bs[k])) l1
      have l2 := lo4_lt (half (r ^^^ z8 bs[k]))
      have h2 := HT.out (lo4 (half (r ^^^ z8 bs[k]))) l2
      clear hc
      unfold half at l2 h2
      simp only [show ∀ x : BitVec 32, x.toNat % 16 = lo4 x from fun _ => rfl] at l2 h2
      go_wp2
      go_round
      case rel => exact ⟨k + 1, hlt, by go_num, by rw [H.out]; rfl⟩
      case measure => simp [intOf]; omega
    · obtain rfl : k = bs.length := by omega
      clear HB HT
      go_wp2
      go_ret
      exact ⟨rfl, rfl⟩
end
/-- 'crc.More'. -/
theorem more_any (s : BitVec 32) (A : Option Addr) (bs : List UInt8) (n cap : Nat) (w : World) (hn : bs.length = n) (hl : n ≤ 9223372036854775807) (hb : BAt w A bs) (ht : Tab w) :
    Calls Tryd.prog 45 #[.int .u32 (U s), .slice A n cap] w fun e w' => e = .returned (.int .u32 (U (more s bs))) ∧ w = w' := by
  subst hn
  refine (more_walk s A bs cap w hl hb ht).mono ?_
  rintro e w' ⟨rfl, rfl⟩
  rw [foldl_byteT]
  exact ⟨rfl, rfl⟩
/-- 'crc.Sum'. -/
theorem sum_any (A : Option Addr) (bs : List UInt8) (n cap : Nat) (w : World) (hn : bs.length = n) (hl : n ≤ 9223372036854775807) (hb : BAt w A bs) (ht : Tab w) :
    Calls Tryd.prog 46 #[.slice A n cap] w fun e w' => e = .returned (.int .u32 (U (more 0#32 bs))) ∧ w = w' := by
  have h := more_any 0#32 A bs n cap w hn hl hb ht
  rw [show U 0#32 = 0 from rfl] at h
  have HC := Lib.hid h
  clear h hn hb ht
  go_enter Tryd.func46, Tryd.ntmps46
  go_wp2_with (go_at_call 45; refine (HC.out).mono ?_; rintro e w' ⟨rfl, rfl⟩)
  go_ret
  exact ⟨rfl, rfl⟩
theorem sum_q (A : Option Addr) (bs : List UInt8) (n cap : Nat) (w : World) (hn : bs.length = n) (hl : n ≤ 9223372036854775807) (hb : BAt w A bs) (ht : Tab w) (N : Nat) :
    Calls Tryd.prog 46 #[.slice A n cap] (w.drewN N) fun e w' => e = .returned (.int .u32 (U (more 0#32 bs))) ∧ w' = w.drewN N :=
  (sum_any A bs n cap (w.drewN N) hn hl hb ht).mono fun _ _ h => ⟨h.1, h.2.symm⟩

/-! ### The reference -/
section
attribute [local go_sem] xor_z8 not_bv
end
end Go.Proofs.YtlnfeehokpkgiaaDoor.Crc
/- The walks of package frame: each function once, over any bytes that are read in memory. -/
namespace Go.Proofs.YtlnfeehokpkgiaaDoor.Frame
open Go.RowKit Mem Crc
theorem byteTy : ByteTy Tryd.prog 32 5 := ⟨Tryd.underlying32, Tryd.underlying5, by kernel_rfl⟩
/-- The call gives back bytes of its own, and nothing that was there has changed. -/
def RetB (w : World) (bs : List UInt8) (e : Ending) (w' : World) : Prop :=
  ∃ A N c, e = .returned (.slice A N c) ∧ Own w' w.heap.size 5 A N c bs ∧ Below w.heap.size w w'

set_option maxHeartbeats 400000 in
/-- 'slices.Clone' of bytes. -/
theorem clone_any (A : Option Addr) (bs : List UInt8) (n cap : Nat) (w : World) (hn : bs.length = n) (hl : n ≤ 140737488355328) (hb : BAt w A bs) :
    Calls Tryd.prog 64 #[.slice A n cap] w (RetB w bs) := by
  have HB := Lib.hid hb
  have HN := Lib.hid hn
  clear hb hn
  cases A with
  | none =>
    have he : ∀ W, (binOp .eql 32 (.slice none n cap) (.slice none 0 0)).run Tryd.prog W = .ok (.bool true) W := fun W => Lib.run_eql_slice_nil W 32 5 none n cap 0 0 Tryd.underlying32
    go_enter Tryd.func64, Tryd.ntmps64
    go_wp2_with fail
    go_ret
    have hbs : bs = [] := by
      rcases Nat.eq_zero_or_pos bs.length with h0 | h0
      · exact List.eq_nil_of_length_eq_zero h0
      · obtain ⟨ad, h, _⟩ := HB.out h0
        cases h
    subst hbs
    exact ⟨_, _, _, rfl, Own.nil_ _ _ _, Below.refl _ _⟩
  | some ad =>
    have he : ∀ W, (binOp .eql 32 (.slice (some ad) n cap) (.slice none 0 0)).run Tryd.prog W = .ok (.bool false) W := fun W => Lib.run_eql_slice_nil W 32 5 (some ad) n cap 0 0 Tryd.underlying32
    go_enter Tryd.func64, Tryd.ntmps64
    go_wp2_with
      (at_builtin
       refine wpList_append_bytes rfl (.tmp 5) (.tmp 6) _ rfl w.heap.size _ byteTy _ 0 0 [] rfl (Own.new w _ _ rfl (Nat.le_refl _) (by rfl) rfl (by decide)) _ n cap bs rfl
         (HB.out.below ((Below.refl _ _).alloc (Nat.le_refl _) _)) HN.out n (Nat.zero_add n) (by omega) (by simp) ?_
       intro A2 c2 w5 ho2 hg2 hb2 hA2
       have HO2 := Lib.hid ho2
       have HBW2 := Lib.hid (((Below.refl w.heap.size w).alloc (Nat.le_refl _) _).trans hb2)
       clear ho2 hg2 hb2 hA2)
    go_ret
    exact ⟨_, _, _, rfl, by simpa using HO2.out, HBW2.out⟩
attribute [local go_sem] or_be
set_option maxHeartbeats 400000 in
/-- 'high': the number of up to eight bytes. -/
theorem high_any (A : Option Addr) (bs : List UInt8) (n cap : Nat) (w : World) (hn : bs.length = n) (hl : n ≤ 8) (hb : BAt w A bs) :
    Calls Tryd.prog 68 #[.slice A n cap] w fun e w' => e = .returned (.tuple #[.int .u64 (be bs : Nat), .int .i64 n]) ∧ w = w' := by
  have HB := Lib.hid hb
  have HN := Lib.hid hn
  clear hb hn
  go_enter Tryd.func68, Tryd.ntmps68
  go_wp2
  go_loop [4, 9] (fun r i => ∃ k : Nat, k ≤ n ∧ i = .int .i64 k ∧ r = .int .u64 (be (bs.take k) : Nat)) (fun _ i => n - (intOf i).toNat)
  case atStart => exact ⟨0, Nat.zero_le _, rfl, rfl⟩
  case round =>
    obtain ⟨k, hk, rfl, rfl⟩ := hrel
    by_cases hlt : k < n
    · have hkl : k < bs.length := by have := HN.out; omega
      have hs : be (bs.take (k + 1)) = be (bs.take k) * 256 + bs[k].toNat := by rw [List.take_succ_eq_append_getElem hkl, be_snoc]
      have hlt1 := be_lt (bs.take k)
      rw [List.length_take_of_le (by omega)] at hlt1
      have h7 : 256 ^ k ≤ 256 ^ 7 := Nat.pow_le_pow_right (by decide) (by omega)
      generalize hr : be (bs.take k) = r at *
      have H := Lib.hid hs
      clear hs hr
      obtain ⟨ad, rfl, hc⟩ := HB.out (by omega)
      have hcell : w.cell? (ad.add k) = some (.int .u8 (V8 bs[k])) := by have := hc k hkl; simpa [List.getD, hkl] using this
      clear hc
      have hr7 : r < 72057594037927936 := by omega
      clear h7 hlt1
      have hv := V8_lt bs[k]
      go_wp2
      go_round
      case rel => exact ⟨k + 1, hlt, by go_num, by rw [H.out]; simp⟩
      case measure => simp [intOf]; omega
    · obtain rfl : k = n := by omega
      have hz : be (bs.take k) = be bs := by rw [List.take_of_length_le (by have := HN.out; omega)]
      clear HB
      rw [hz]
      go_wp2
      go_ret2
      exact ⟨rfl, rfl⟩
/-- The array that Number fills, after k rounds. -/
def RowRel (w : World) (g n : Nat) (i : Value) (wr : World) : Prop :=
  ∃ (k : Nat) (row : List UInt8), k ≤ 8 ∧ i = .int .i64 k ∧ row.length = 8 ∧ Blk wr g 126 (cellsOf row) ∧ Below g w wr ∧ g < wr.heap.size ∧ ∀ j, j < k → row.getD j 0 = (beB n 8).getD j 0
set_option maxHeartbeats 400000 in
/-- 'Number', of a size that is none. -/
theorem number_no (A : Option Addr) (bs : List UInt8) (m cap : Nat) (n : Nat) (size : Int) (w : World) (hm : bs.length = m) (hl : m ≤ 140737488355328) (hb : BAt w A bs) (hsz : ¬ (1 ≤ size ∧ size ≤ 8)) :
    Calls Tryd.prog 43 #[.slice A m cap, .int .u64 n, .int .i64 size] w (RetB w bs) := by
  have HC := Lib.hid (clone_any A bs m cap w hm hl hb)
  clear hb hm
  have hcase : size < 1 ∨ ¬ size < 1 ∧ 8 < size := by omega
  clear hsz
  rcases hcase with h1 | ⟨h1, h2⟩
  all_goals
    go_enter Tryd.func43, Tryd.ntmps43
    go_wp2_with fail
    refine HC.out.mono ?_
    rintro e w1 ⟨A1, N1, c1, rfl, ho, hbw⟩
    have HO := Lib.hid ho
    have HBW := Lib.hid hbw
    clear ho hbw HC
    go_wp2_with fail
    go_ret
    exact ⟨_, _, _, rfl, HO.out, HBW.out⟩
set_option maxHeartbeats 400000 in
/-- 'Number', of 1 to 8 bytes. -/
theorem number_yes (A : Option Addr) (bs : List UInt8) (m cap : Nat) (n : Nat) (size : Nat) (w : World) (hm : bs.length = m) (hl : m ≤ 140737488355320) (hb : BAt w A bs) (h1 : 1 ≤ size) (h8 : size ≤ 8) (_hn : n < 18446744073709551616) :
    Calls Tryd.prog 43 #[.slice A m cap, .int .u64 n, .int .i64 size] w (RetB w (bs ++ beB n size)) := by
  have HC := Lib.hid (clone_any A bs m cap w hm (by omega) hb)
  have HM := Lib.hid hm
  clear hb hm
  go_enter Tryd.func43, Tryd.ntmps43
  go_wp2_with fail
  refine HC.out.mono ?_
  rintro e w1 ⟨A1, N1, c1, rfl, ho, hbw⟩
  obtain rfl : N1 = m := by rw [← ho.len]; exact HM.out
  have HO := Lib.hid ho
  have HBW := Lib.hid hbw
  have hsz := hbw.size
  clear ho hbw HC
  go_wp2_with fail
  go_loopw [19] (fun i wr => RowRel w1 w1.heap.size n i wr) (fun i _ => 8 - (intOf i).toNat)
  case atStart => exact ⟨0, List.replicate 8 0, by omega, rfl, rfl, Blk.new w1 _ _, (Below.refl _ _).alloc (Nat.le_refl _) _, by simp, fun j hj => absurd hj (by omega)⟩
  case round =>
    obtain ⟨k, row, hk, rfl, hrl, hG, hW, hlt', hj⟩ := hrel
    have HG := Lib.hid hG
    have HW := Lib.hid hW
    have HJ := Lib.hid hj
    have HR := Lib.hid hrl
    clear hG hW hj hrl
    by_cases hlt : k < 8
    · have h4 := HG.out.byte (k := k) (by have := HR.out; omega)
      have h5 := HG.out.frozen k
      go_wp2
      go_roundw
      case rel =>
        rw [shr_byte n k hlt]
        refine ⟨k + 1, row.set k (UInt8.ofNat (n / 256 ^ (7 - k))), hlt, by go_num, by simpa using HR.out, HG.out.setByte k _, HW.out.setCell (Nat.le_refl _) _, by simpa [World.setCell] using hlt', fun j hj => ?_⟩
        rcases Nat.lt_or_ge j k with h | h
        · have := HJ.out j h
          simp [List.getD, Nat.ne_of_gt h] at this ⊢
          exact this
        · obtain rfl : j = k := by omega
          have := beB_get n 8 j hlt
          rw [this]
          have hr := HR.out
          simp [List.getD, hr, hlt]
      case measure => simp [intOf]; omega
    · obtain rfl : k = 8 := by omega
      have hrow : row = beB n 8 := by
        have h8 := HR.out
        apply List.ext_getElem (by rw [h8, beB_length])
        intro j h1 h2
        have := HJ.out j (by omega)
        simpa [List.getD, h1, h2] using this
      subst hrow
      have HT := Lib.hid ((HG.out.bat).drop (8 - size))
      have hd : (beB n 8).drop (8 - size) = beB n size := by
        have := beB_drop n (8 - size) size
        rwa [show 8 - size + size = 8 by omega] at this
      rw [hd, add_off, Nat.zero_add] at HT
      have HO' := Lib.hid (HO.out.below HW.out)
      have HBW' := Lib.hid (HBW.out.trans (HW.out.mono hsz))
      clear HG HW HJ HR hd HO HBW
      have hcut := fun W => run_cutArray (P := Tryd.prog) 126 5 8 Tryd.underlying126 byteTy.hi w1.heap.size 0 .i64 (8 - (size : Int)) (8 - size) (by omega) (by omega) W
      rw [Nat.zero_add, show 8 - (8 - size) = size by omega] at hcut
      go_wp2_with
        (at_builtin
         refine wpList_append_bytes rfl (.tmp 31) (.tmp 34) _ rfl w.heap.size _ byteTy _ _ _ bs rfl HO'.out _ size _ (beB n size) rfl
           HT.out (beB_length _ _) (N1 + size) rfl (by omega) HBW'.out.size ?_
         intro A2 c2 w5 ho2 hg2 hb2 hA2
         have HO2 := Lib.hid ho2
         have HBW2 := Lib.hid (HBW'.out.trans hb2)
         clear ho2 hg2 hb2 hA2)
      go_ret
      exact ⟨_, _, _, rfl, HO2.out, HBW2.out⟩
/-- Number, all sizes. -/
theorem number_any (A : Option Addr) (bs : List UInt8) (m cap : Nat) (n : Nat) (size : Int) (w : World) (hm : bs.length = m) (hl : m ≤ 140737488355320) (hb : BAt w A bs) (hn : n < 18446744073709551616) :
    Calls Tryd.prog 43 #[.slice A m cap, .int .u64 n, .int .i64 size] w (RetB w (number bs n size)) := by
  unfold number okSize
  by_cases h : 1 ≤ size ∧ size ≤ 8
  · rw [if_pos (by simpa using h)]
    obtain ⟨s, rfl⟩ := Int.eq_ofNat_of_zero_le (show 0 ≤ size by omega)
    rw [Int.toNat_natCast]
    exact number_yes A bs m cap n s w hm hl hb (by omega) (by omega) hn
  · rw [if_neg (by simpa using h)]
    exact number_no A bs m cap n size w hm (by omega) hb h
/-- What Take gives back. -/
def RetT (w : World) (r : Nat × List UInt8 × Int) (e : Ending) (w' : World) : Prop :=
  ∃ A N c, e = .returned (.tuple #[.int .u64 (r.1 : Nat), .slice A N c, .int .i64 r.2.2]) ∧ Own w' w.heap.size 5 A N c r.2.1 ∧ Below w.heap.size w w'
set_option maxHeartbeats 400000 in
theorem take_no (A : Option Addr) (m cap : Nat) (size : Int) (w : World) (hsz : ¬ (1 ≤ size ∧ size ≤ 8)) :
    Calls Tryd.prog 67 #[.slice A m cap, .int .i64 size] w (RetT w (0, [], 1)) := by
  have hcase : size < 1 ∨ ¬ size < 1 ∧ 8 < size := by omega
  clear hsz
  rcases hcase with h1 | ⟨h1, h2⟩
  all_goals
    go_enter Tryd.func67, Tryd.ntmps67
    go_wp2
    go_ret3
    exact ⟨_, _, _, rfl, Own.nil_ _ _ _, Below.refl _ _⟩
set_option maxHeartbeats 400000 in
theorem take_short (A : Option Addr) (m cap : Nat) (size : Int) (w : World) (h1 : 1 ≤ size) (h8 : size ≤ 8) (hm : (m : Int) < size) :
    Calls Tryd.prog 67 #[.slice A m cap, .int .i64 size] w (RetT w (0, [], 40)) := by
  go_enter Tryd.func67, Tryd.ntmps67
  go_wp2
  go_ret3
  exact ⟨_, _, _, rfl, Own.nil_ _ _ _, Below.refl _ _⟩
set_option maxHeartbeats 400000 in
theorem take_yes (A : Option Addr) (bs : List UInt8) (m cap : Nat) (size : Nat) (w : World) (hl : bs.length = m) (hcap : m ≤ cap) (hmax : m ≤ 140737488355328) (hb : BAt w A bs) (h1 : 1 ≤ size) (h8 : size ≤ 8) (hm : size ≤ m) :
    Calls Tryd.prog 67 #[.slice A m cap, .int .i64 size] w (RetT w (be (bs.take size), bs.drop size, 0)) := by
  have hc1 := fun W => run_cut_h (P := Tryd.prog) 32 5 byteTy A m cap .i64 (size : Int) size rfl (by omega) W
  have hc2 := fun W => run_cut_l (P := Tryd.prog) 32 5 byteTy A m cap .i64 (size : Int) size rfl hm W
  have HC := Lib.hid (high_any A (bs.take size) size cap w (by simp; omega) h8 (hb.take size))
  have HB := Lib.hid hb
  have HL := Lib.hid hl
  have hlt : ¬ (m : Int) < (size : Int) := by omega
  clear hb hl
  go_enter Tryd.func67, Tryd.ntmps67
  go_wp2_with fail
  refine HC.out.mono ?_
  rintro e w1 ⟨rfl, rfl⟩
  clear HC
  have hsub : (m : Int) - (size : Int) = ((m - size : Nat) : Int) := by omega
  have hcn : cutA A cap size = none → cap - size = 0 := by
    intro h
    obtain ⟨ad, rfl, _⟩ := HB.out (by have := HL.out; omega)
    unfold cutA at h
    split at h
    · cases h
    · cases h
  have hdl : (bs.drop size).length = m - size := by have := HL.out; simp; omega
  have HN := Lib.hid hcn
  have HD := Lib.hid hdl
  clear hcn hdl
  go_wp2_with (first
    | (refine wpList_make_bytes rfl (.tmp 29) (.tmp 29) _ _ rfl byteTy _ _ (m - size) rfl rfl (by omega) ?_
       intro w2 hb2 hw2 hz2
       have HG2 := Lib.hid hb2
       have HBW2 := Lib.hid hw2
       have HB2 := Lib.hid ((HB.out.below hw2).cut cap size (by have := HL.out; omega))
       clear hb2 hw2)
    | (refine wpList_copy_bytes rfl (.tmp 31) (.tmp 34) _ rfl _ byteTy w.heap.size 0 (m - size) (m - size) _ _ rfl HG2.out (cutA A cap size) (m - size) (cap - size) (bs.drop size) rfl HB2.out HD.out (m - size) (Nat.min_self _).symm (by simp) HN.out ?_
       intro w3 hb3 hg3 hz3
       have HG3 := Lib.hid hb3
       have HBW3 := Lib.hid ((HBW2.out).grown hg3 (Nat.le_of_lt hz2) (by simp))
       clear hb3 hg3 hz3))
  go_ret3
  have e1 : List.take 0 (List.replicate (m - size) (0 : UInt8)) ++ (bs.drop size).take (m - size) ++ List.drop (0 + (m - size)) (List.replicate (m - size) 0) = bs.drop size := by
    have := HD.out
    rw [Nat.zero_add, List.take_zero, List.nil_append, List.take_of_length_le (Nat.le_of_eq this), List.drop_eq_nil_of_le (Nat.le_of_eq List.length_replicate), List.append_nil]
  have hg := HG3.out
  rw [e1] at hg
  exact ⟨_, _, _, rfl, Own.of_blk hg (Nat.le_refl _) HD.out (by unfold maxLen; omega), HBW3.out⟩
theorem take_any (A : Option Addr) (bs : List UInt8) (m cap : Nat) (size : Int) (w : World) (hl : bs.length = m) (hcap : m ≤ cap) (hmax : m ≤ 140737488355328) (hb : BAt w A bs) :
    Calls Tryd.prog 67 #[.slice A m cap, .int .i64 size] w (RetT w (takeM bs size)) := by
  unfold takeM okSize
  by_cases h : 1 ≤ size ∧ size ≤ 8
  · rw [if_pos (by simpa using h)]
    by_cases hs : (bs.length : Int) < size
    · rw [if_pos hs]
      exact take_short A m cap size w h.1 h.2 (by omega)
    · rw [if_neg hs]
      obtain ⟨s, rfl⟩ := Int.eq_ofNat_of_zero_le (show 0 ≤ size by omega)
      rw [Int.toNat_natCast]
      exact take_yes A bs m cap s w hl hcap hmax hb (by omega) (by omega) (by omega)
  · rw [if_neg (by simpa using h)]
    exact take_no A m cap size w h
/-- What Unpack gives back. -/
def RetU (w : World) (r : Option (UInt8 × List UInt8 × List UInt8)) (e : Ending) (w' : World) : Prop :=
  (r = none ∧ e = .returned (.tuple #[.int .u8 0, .slice none 0 0, .slice none 0 0, .int .i64 40]) ∧ Below w.heap.size w w') ∨
  ∃ k p q A N c A' N' c', r = some (k, p, q) ∧ e = .returned (.tuple #[.int .u8 (V8 k), .slice A N c, .slice A' N' c', .int .i64 0]) ∧
    Own w' w.heap.size 5 A N c p ∧ Own w' w.heap.size 5 A' N' c' q ∧ Below w.heap.size w w' ∧ (A = none ∨ A.map (·.block) ≠ A'.map (·.block))
theorem RetU.some_ {w w' : World} {k : UInt8} {p q : List UInt8} {e : Ending} (h : RetU w (some (k, p, q)) e w') :
    ∃ A N c A' N' c', e = .returned (.tuple #[.int .u8 (V8 k), .slice A N c, .slice A' N' c', .int .i64 0]) ∧ Own w' w.heap.size 5 A N c p ∧ Own w' w.heap.size 5 A' N' c' q ∧ Below w.heap.size w w' ∧ (A = none ∨ A.map (·.block) ≠ A'.map (·.block)) := by
  rcases h with ⟨h, _⟩ | ⟨k', p', q', A, N, c, A', N', c', h, rest⟩
  · cases h
  · injection h with h
    injection h with h1 h2
    injection h2 with h2 h3
    subst h1 h2 h3
    exact ⟨A, N, c, A', N', c', rest⟩
theorem RetU.none_ {w w' : World} {e : Ending} (h : RetU w none e w') : e = .returned (.tuple #[.int .u8 0, .slice none 0 0, .slice none 0 0, .int .i64 40]) ∧ Below w.heap.size w w' := by
  rcases h with ⟨_, h⟩ | ⟨k', p', q', A, N, c, A', N', c', h, _⟩
  · exact h
  · cases h
theorem results_tmp4 {fn : Func} {t u v x : Tmp} (h : fn.results = #[.tmp t, .tmp u, .tmp v, .tmp x]) (tmps : Array Value) (P : Program) (w : World) :
    (results fn tmps).run P w = .ok (.tuple #[tmps.getD t undef, tmps.getD u undef, tmps.getD v undef, tmps.getD x undef]) w := by simp [results, h]
attribute [local go_sem ↓] Go.wp_at_zero Go.wp_at_succ
end Go.Proofs.YtlnfeehokpkgiaaDoor.Frame
/- A drawn region walked by a tree of orders: where two operations that write may come up next, both are shown. -/
namespace Go.Proofs.YtlnfeehokpkgiaaDoor.Ord
open Go.RowKit Mem
section
variable {P : Program} {ops : Array Oper} {Q : Exit → Act → World → Prop} {md : Region.Mode} {L : List Nat}
theorem wpOp_of_list {i : Nat} {o : Oper} {K : Act → World → Prop} {a : Act} {w : World} (hi : ops[i]? = some o) (h : wpList P ops (NX (NP Q) K) [o] a w) : wpOp P ops (NP Q) i K a w := by
  unfold wpOp
  simp only [hi]
  unfold wpList at h
  split
  · rename_i hw
    rw [if_pos hw] at h
    rcases h with h | ⟨_, h⟩
    · exact .inl (wp_next (fun a' w' x => x) h)
    · obtain ⟨_, _, h⟩ := h
      exact (h : False).elim
  · rename_i hw
    rw [if_neg hw] at h
    exact h
/-- The rest of the region, so many operations, from here. -/
def TB (P : Program) (md : Region.Mode) (ops : Array Oper) (Q : Exit → Act → World → Prop) (L : List Nat) (k : Nat) (listed : Array Bool) (a : Act) (w : World) : Prop := Closed md ops listed → wpB P md ops (NP Q) L k listed a w
theorem tb_start {id : Nat} {a : Act} {w : World} (L : List Nat) (hm : P.follows .mixedOrders = true) (h : TB P .any ops Q L ops.size (Array.replicate ops.size false) a w.drew) : (Code.region id ops true).wp P Q a w :=
  Code.wp_mono NP.imp (wp_region_any hm (wpAny_of_wpB _ _ _ _ (h Closed.start)))
theorem tb_ords {k : Nat} {listed : Array Bool} {a : Act} {w : World} (order : List Nat) (hsel : Region.noSelect ops = true) (hlen : order.length = k) (hok : okOrd P md ops L [] order listed = true) (h : wpOrd P ops (NP Q) L [] order a w) : TB P md ops Q L k listed a w := fun hc => by
  have := wpB_of_ord hsel order listed a w hc hok h
  rw [List.append_nil, hlen] at this
  exact this
/-- May operations that only look or reckon be walked ahead, in this order? -/
def okPre (P : Program) (md : Region.Mode) (ops : Array Oper) (L : List Nat) : List Nat → Array Bool → Bool
  | [], _ => true
  | i :: r, listed => (match ops[i]? with
    | none => false
    | some o => match kindOf P o with
      | .blind => (Region.ready md ops listed).contains i && Region.free md ops listed i
      | .looks => (Region.ready md ops listed).contains i && Region.free md ops listed i && (List.range ops.size).all fun j => listed.getD j true || j == i || keepsB P ops L j || waitsT md ops ops.size j i
      | _ => false) && okPre P md ops L r (listed.setIfInBounds i true)
theorem tb_pre_ (hsel : Region.noSelect ops = true) (k : Nat) : ∀ (l : List Nat) (lops : List Oper) (listed : Array Bool) (a : Act) (w : World), l.map (ops[·]?) = lops.map some → okPre P md ops L l listed = true →
    wpList P ops (NX (NP Q) fun a' w' => TB P md ops Q L k (l.foldl (fun x i => x.setIfInBounds i true) listed) a' w') lops a w → TB P md ops Q L (k + l.length) listed a w
  | [], [], _, _, _, _, _, h => h
  | [], _ :: _, _, _, _, hl, _, _ => by cases hl
  | _ :: _, [], _, _, _, hl, _, _ => by cases hl
  | i :: r, o :: lops, listed, a, w, hl, hok, h => fun hcl => by
    have hsp := Region.noSelect_spec hsel
    simp only [List.map_cons, List.cons.injEq] at hl
    obtain ⟨ho, hl2⟩ := hl
    unfold okPre at hok
    rw [Bool.and_eq_true] at hok
    obtain ⟨h1, h2⟩ := hok
    rw [ho] at h1
    simp only at h1
    have hstep : wpOp P ops (NP Q) i (fun a' w' => TB P md ops Q L (k + r.length) (listed.setIfInBounds i true) a' w') a w := by
      unfold wpOp
      simp only [ho]
      unfold wpList at h
      split
      · rename_i hw
        rw [if_pos hw] at h
        rcases h with h | ⟨_, h⟩
        · exact .inl (wp_next (fun a' w' x => tb_pre_ hsel k r lops _ a' w' hl2 h2 x) h)
        · obtain ⟨_, _, h⟩ := h
          exact (h : False).elim
      · rename_i hw
        rw [if_neg hw] at h
        exact tb_pre_ hsel k r lops _ _ _ hl2 h2 h
    show wpB P md ops (NP Q) L (k + r.length + 1) listed a w
    split at h1
    · rename_i hk
      simp only [Bool.and_eq_true] at h1
      have hr : i ∈ Region.ready md ops listed := by simpa using h1.1
      obtain ⟨v, hy, hK⟩ := blind_first ho hk hstep
      exact wpB_first (fun _ => True) (fun _ _ _ _ => trivial) ho hsp (fun _ _ _ x => x) _ listed a w hcl (Region.free_spec ho h1.2) (.inl fun _ => trivial) hr hy trivial (hK (hcl.set hr))
    · rename_i hk
      simp only [Bool.and_eq_true] at h1
      have hr : i ∈ Region.ready md ops listed := by simpa using h1.1.1
      obtain ⟨v, hy, hK⟩ := looks_first ho hk hstep
      refine wpB_first (fun x => Below w.heap.size w x) (fun x y hx hxy => hx.trans (hxy.mono hx.size)) ho hsp (fun _ _ _ x => x) _ listed a w hcl (Region.free_spec ho h1.1.2) (.inr fun j hj hji hkj => ?_) hr hy (Below.refl _ _) (hK (hcl.set hr))
      have hlt : j < ops.size := by
        rcases Nat.lt_or_ge j listed.size with h' | h'
        · rw [hcl.size] at h'; exact h'
        · simp [Array.getElem?_eq_none h'] at hj
      have := List.all_eq_true.1 h1.2 j (List.mem_range.2 hlt)
      simp only [hj, hkj, Bool.false_or, Bool.or_eq_true, beq_iff_eq, hji, false_or, Bool.or_false] at this
      exact ⟨_, this⟩
    · cases h1
theorem tb_pre {k m : Nat} {listed : Array Bool} {a : Act} {w : World} (l : List Nat) (lops : List Oper) (hsel : Region.noSelect ops = true) (hk : m = k + l.length) (hl : l.map (ops[·]?) = lops.map some) (hok : okPre P md ops L l listed = true)
    (h : wpList P ops (NX (NP Q) fun a' w' => TB P md ops Q L k (l.foldl (fun x i => x.setIfInBounds i true) listed) a' w') lops a w) : TB P md ops Q L m listed a w := by
  subst hk
  exact tb_pre_ hsel k l lops listed a w hl hok h
/-- Two may come up next. -/
theorem tb_fork {i j k : Nat} {oi oj : Oper} {listed : Array Bool} {a : Act} {w : World} (hr : Region.ready md ops listed = [i, j]) (hi : ops[i]? = some oi) (hj : ops[j]? = some oj)
    (h1 : wpList P ops (NX (NP Q) fun a' w' => Below w.heap.size w w' ∧ TB P md ops Q L k (listed.setIfInBounds i true) a' w') [oi] a w)
    (h2 : wpList P ops (NX (NP Q) fun a' w' => Below w.heap.size w w' ∧ TB P md ops Q L k (listed.setIfInBounds j true) a' w') [oj] a w) : TB P md ops Q L (k + 1) listed a w := fun hcl =>
  ⟨fun h0 => absurd h0 (by rw [hr]; simp), fun m hm => by
    have hm' := hm
    rw [hr] at hm'
    simp only [List.mem_cons, List.not_mem_nil, or_false] at hm'
    rcases hm' with rfl | rfl
    · exact wpOp_mono (fun a' w' x => ⟨fun _ => x.1, x.2 (hcl.set hm)⟩) (wpOp_of_list hi h1)
    · exact wpOp_mono (fun a' w' x => ⟨fun _ => x.1, x.2 (hcl.set hm)⟩) (wpOp_of_list hj h2)⟩
theorem nx_tb {k : Nat} {listed : Array Bool} {a : Act} {w : World} (h : TB P md ops Q L k listed a w) : NX (NP Q) (fun a' w' => TB P md ops Q L k listed a' w') .normal a w := h
theorem nx_tb2 {k : Nat} {listed : Array Bool} {a : Act} {w0 w : World} (hb : Below w0.heap.size w0 w) (h : TB P md ops Q L k listed a w) : NX (NP Q) (fun a' w' => Below w0.heap.size w0 w' ∧ TB P md ops Q L k listed a' w') .normal a w := ⟨hb, h⟩
end
end Go.Proofs.YtlnfeehokpkgiaaDoor.Ord
/- A drawn region walked by a tree of orders: where a call that writes what no waiting operation reads may come up beside an allocation. -/
namespace Go.Proofs.YtlnfeehokpkgiaaDoor.Ord
open Go.RowKit Mem
section
variable {P : Program} {ops : Array Oper} {Q : Exit → Act → World → Prop} {md : Region.Mode} {L : List Nat}
/-- Two may come up next; the first is bound to nothing. -/
theorem tb_fork_free {i j k : Nat} {oi oj : Oper} {listed : Array Bool} {a : Act} {w : World} (hr : Region.ready md ops listed = [i, j]) (hi : ops[i]? = some oi) (hj : ops[j]? = some oj) (hki : keepsB P ops L i = false)
    (h1 : wpList P ops (NX (NP Q) fun a' w' => TB P md ops Q L k (listed.setIfInBounds i true) a' w') [oi] a w)
    (h2 : wpList P ops (NX (NP Q) fun a' w' => Below w.heap.size w w' ∧ TB P md ops Q L k (listed.setIfInBounds j true) a' w') [oj] a w) : TB P md ops Q L (k + 1) listed a w := fun hcl =>
  ⟨fun h0 => absurd h0 (by rw [hr]; simp), fun m hm => by
    have hm' := hm
    rw [hr] at hm'
    simp only [List.mem_cons, List.not_mem_nil, or_false] at hm'
    rcases hm' with rfl | rfl
    · exact wpOp_mono (fun a' w' x => ⟨fun h => (by rw [hki] at h; cases h), x (hcl.set hm)⟩) (wpOp_of_list hi h1)
    · exact wpOp_mono (fun a' w' x => ⟨fun _ => x.1, x.2 (hcl.set hm)⟩) (wpOp_of_list hj h2)⟩
end
end Go.Proofs.YtlnfeehokpkgiaaDoor.Ord
/- The journal's small functions: 'fill', 'disk', 'numbers', 'parts', 'long'. -/
namespace Go.Proofs.YtlnfeehokpkgiaaDoor.Wal
open Go Go.RowKit Mem Pl Disk Crc _root_.Go.Proofs.YtlnfeehokpkgiaaDoor.Frame
theorem zeroCells8 (k : Nat) : Builtin.zeroCells #[.int .u8 0] k = ((List.replicate k (0 : UInt8)).map B8).toArray := by
  unfold Builtin.zeroCells
  refine Array.ext' ?_
  simp
  exact List.ext_getElem (by simp) fun i h1 h2 => by simp [B8, V8, Nat.mod_one]
theorem own_block {w : World} {base : Nat} {n c g : Nat} {bs : List UInt8} (h : Own w base 5 (some ⟨g, 0, none⟩) n c bs) : ∃ cur : List Value, Blk w g 5 cur.toArray ∧ cur.length = c ∧ cur.take n = bs.map B8 ∧ n ≤ c ∧ base ≤ g ∧ c ≤ maxLen := by
  rcases h.2 with ⟨h0, _⟩ | ⟨g', cap', cur, hv, hg, hh, hn, hcap, hsz, htake⟩
  · cases h0
  · injection hv with e1 _ e3
    injection e1 with e1
    injection e1 with e1
    subst e1 e3
    refine ⟨cur.toList, by show w.heap[g]? = _; rw [hh], by simpa using hsz, ?_, hn, hg, hcap⟩
    simpa using htake
/-- 'append(s, make([]byte, q)...)'. -/
theorem run_append_zeros {w : World} {base n c : Nat} {A : Option Addr} {bs : List UInt8} (h : Own w base 5 A n c bs) (hb : base ≤ w.heap.size) (q : Nat) (hq : n + q ≤ 64) :
    ∃ A' c' w', (Builtin.append_ #[32, 3] 32 #[.slice A n c, .int .i64 (q : Int)]).run Tryd.prog w = .ok (.slice A' (n + q) c') w' ∧ Own w' base 5 A' (n + q) c' (bs ++ List.replicate q 0) ∧ Below base w w' := by
  obtain ⟨i, hi, hz, hs, hby⟩ := Pl.elByte.info
  have hw : IntKind.i64.wrap (q : Int) = (q : Int) := IntWalk.i64_in _ (by omega)
  have hneg : ¬ ((q : Int) < 0) := by omega
  have hcl := h.cap_le.1
  have hlen := h.len
  have h48i : ¬ (281474976710656 < (q : Int)) := by omega
  rcases Nat.eq_zero_or_pos q with rfl | hq0
  · refine ⟨A, c, w, ?_, by simpa using h, Below.refl _ _⟩
    have hw0 : IntKind.i64.wrap 0 = 0 := by decide
    cases A <;> simp [hw0, Builtin.append_, run_underlying Tryd.underlying32, run_underlying Tryd.underlying3, sizeOf, typeInfo, zeroValue, hi, asInt, asIntOf, hby, hcl, storeCells]
  · have hqn : q ≠ 0 := by omega
    by_cases hfit : n + q ≤ c
    · rcases h.form with ⟨_, rfl, rfl⟩ | ⟨g, rfl, hg, hgl⟩
      · omega
      · obtain ⟨cur, hk, hcl', htk, _, _, hm⟩ := own_block h
        have hzl : (Builtin.zeroCells #[.int .u8 0] q).toList.length = q := by rw [zeroCells8]; simp
        have hone : ∀ v ∈ (Builtin.zeroCells #[.int .u8 0] q).toList, v.oneCell' = true := by
          rw [zeroCells8]
          intro v hv
          simp at hv
          obtain ⟨_, rfl⟩ := hv
          rfl
        have hrun := run_storeCells_cells (P := Tryd.prog) g n (Builtin.zeroCells #[.int .u8 0] q).toList 0 w (fun j hj => by rw [hk.cell]; simp; omega) (fun j hj => hk.frozen _) hone
        obtain ⟨k1, k2, k3⟩ := setCells_blk (Builtin.zeroCells #[.int .u8 0] q).toList cur n w hk (by rw [hzl]; omega)
        refine ⟨some ⟨g, 0, none⟩, c, w.setCells g n (Builtin.zeroCells #[.int .u8 0] q).toList, ?_, ⟨by simp; omega, .inr ⟨g, c, _, rfl, hg, k1, hfit, hm, ?_, ?_⟩⟩, (Below.refl _ _).grown k2 hb (fun k hk => by injection hk with hk; omega)⟩
        · simp only [Nat.add_zero] at hrun
          simp [Builtin.append_, run_underlying Tryd.underlying32, run_underlying Tryd.underlying3, sizeOf, typeInfo, zeroValue, hi, hz, hs, hby, asInt, asIntOf, hw, hneg, h48i, hqn, hfit, add_off, Value.cells, hrun]
        · simp [hzl]
          omega
        · rw [zeroCells8]
          simp only [Nat.mul_one]
          rw [List.take_left' (by simp; omega), htk]
          simp
    · have hold : ∃ olds : List Value, olds = bs.map B8 ∧ (Builtin.firstCells i.size n (.slice A n c)).run Tryd.prog w.drew = .ok olds.toArray w.drew := by
        refine ⟨_, rfl, ?_⟩
        rcases h.form with ⟨rfl, rfl, rfl⟩ | ⟨g, rfl, hg, hgl⟩
        · have : bs = [] := List.eq_nil_of_length_eq_zero hlen
          subst this
          simp [Builtin.firstCells]
        · refine run_firstCells_some _ _ _ _ _ _ _ (by simp [hs, hlen]) fun j v hv => ?_
          have hj : j < n := by have := (List.getElem?_eq_some_iff.1 hv).1; simpa [hlen] using this
          have h1 := h.at_ hj
          rw [add_off]
          simp only [Nat.zero_add]
          show w.cell? _ = _
          rw [h1]
          rw [List.getElem?_map] at hv
          rw [List.getD_eq_getElem?_getD]
          cases hb2 : bs[j]? with
          | none => rw [hb2] at hv; cases hv
          | some b => rw [hb2] at hv; simpa [B8] using hv
      obtain ⟨olds, rfl, hold⟩ := hold
      have hncap : Builtin.nextslicecap (n + q) c ≤ 2000 := by
        unfold Builtin.nextslicecap
        split
        · omega
        · rw [if_pos (by omega)]
          omega
      have hr := Lib.run_append_grow_zeros (P := Tryd.prog) w 32 3 32 5 i (.int .u8 0) .i64 .i64 Tryd.underlying32 Tryd.underlying3 hi hz A n c _ hold q hq0 (by omega) (by omega) (by omega) (by rw [hby]; omega) (by rw [hby]; omega)
      have hge := grownCap_ge w (n + q) c 5
      have hcm : grownCap w (n + q) c 5 ≤ maxLen := grownCap_le_maxLen w (n + q) c 5 (by unfold maxLen; omega)
      refine ⟨_, _, _, hr, ⟨by simp [hlen], .inr ⟨w.heap.size, _, _, rfl, hb, heap_alloc_new w.drew _, hge, hcm, ?_, ?_⟩⟩, ?_⟩
      · simp only [Value.cells, zeroCells8]
        simp [hlen]
        omega
      · simp only [Value.cells, zeroCells8]
        simp [List.take_append, hlen]
        exact List.take_of_length_le (by simp; omega)
      · exact (below_drewN (Below.refl _ _) 1).trans (((Below.refl base w.drew).alloc hb _))
theorem fill_any (w : World) (base : Nat) (A : Option Addr) (n c : Nat) (bs : List UInt8) (h : Own w base 5 A n c bs) (hb : base ≤ w.heap.size) (h64 : n ≤ 64) :
    Calls Tryd.prog 44 #[.slice A n c] w fun e w' => ∃ A' c', e = .returned (.slice A' 64 c') ∧ Own w' base 5 A' 64 c' (bs ++ List.replicate (64 - n) 0) ∧ Below base w w' := by
  obtain ⟨A', c', w', hrun, ho, hbw⟩ := run_append_zeros h hb (64 - n) (by omega)
  rw [show n + (64 - n) = 64 by omega] at hrun ho
  have hsub : (64 : Int) - (n : Int) = ((64 - n : Nat) : Int) := by omega
  have HO := Lib.hid ho
  have HB := Lib.hid hbw
  have HR := Lib.hid hrun
  clear h hb ho hbw hrun
  go_enter Tryd.func44, Tryd.ntmps44
  go_wp2_with
    (at_builtin
     refine Lib.wpList_append_run _ rfl (.tmp 3) (.tmp 6) _ _ rfl _ _ rfl rfl _ _ HR.out ?_)
  go_ret
  exact ⟨A', c', rfl, HO.out, HB.out⟩
theorem parts_any (w : World) (A : Option Addr) (n c : Nat) (bs : List UInt8) (hl : bs.length = n) (hn : n ≤ 1000000000) :
    Calls Tryd.prog 41 #[.slice A n c] w fun e w' => e = .returned (.int .i64 (partsM bs : Int)) ∧ w = w' := by
  obtain ⟨q, hq⟩ : ∃ q, (n + 44) / 45 = q := ⟨_, rfl⟩
  have hp : partsM bs = max 1 q := by unfold partsM; rw [hl, hq]
  rw [hp]
  have hw : IntKind.i64.wrap ((n : Int) + 45) = (n : Int) + 45 := IntWalk.i64_in _ (by omega)
  have hd : ((n : Int) + 45 - 1).tdiv 45 = (q : Int) := by rw [Int.tdiv_eq_ediv_of_nonneg (by omega)]; omega
  have hq0 : (0 : Int) ≤ (q : Int) := by omega
  have hq1 : (q : Int) ≤ 1000000000 := by omega
  clear hp hl hq
  by_cases h1 : (1 : Int) < (q : Int)
  · rw [show max 1 q = q by omega]
    go_enter Tryd.func41, Tryd.ntmps41
    go_wp2
    go_ret
    exact ⟨rfl, rfl⟩
  · rw [show max 1 q = 1 by omega]
    go_enter Tryd.func41, Tryd.ntmps41
    go_wp2
    go_ret
    exact ⟨rfl, rfl⟩
/-- A row of rows of bytes. -/
def RowsAt (W : World) (A : Option Addr) (l : List (List UInt8)) : Prop := ∀ i b, l[i]? = some b → ∃ ad B c, A = some ad ∧ W.cell? (ad.add i) = some (.slice B b.length c) ∧ BAt W B b
theorem RowsAt.below {W w : World} {A : Option Addr} {l : List (List UInt8)} (h : RowsAt W A l) (hb : Below W.heap.size W w) : RowsAt w A l := fun i b hi => by
  obtain ⟨ad, B, c, e, hc, hB⟩ := h i b hi
  exact ⟨ad, B, c, e, (hb.cell (cell_lt hc)).trans hc, hB.below hb⟩
theorem tot_take {l : Tx} {i : Nat} {b : List UInt8} (h : l[i]? = some b) : totM (l.take (i + 1)) = totM (l.take i) + b.length := by
  unfold totM
  rw [List.take_add_one, h]
  simp
theorem tot_le (l : Tx) (i : Nat) : totM (l.take i) ≤ totM l := by
  unfold totM
  conv => rhs; rw [← List.take_append_drop i l, List.map_append, List.sum_append]
  omega
/-- The loop of 'long'. -/
def LongR (w : World) (l : Tx) (nv iv : Value) (wr : World) : Prop := ∃ i : Nat, i ≤ l.length ∧ iv = .int .i64 (i : Int) ∧ nv = .int .i64 (totM (l.take i) : Int) ∧ wr = w
theorem long_any (w : World) (A : Option Addr) (n c : Nat) (l : Tx) (h : RowsAt w A l) (hl : l.length = n) (hn : n ≤ 1000000000) (ht : totM l ≤ 1000000000000000) :
    Calls Tryd.prog 38 #[.slice A n c] w fun e w' => e = .returned (.bool (longM l)) ∧ w = w' := by
  have H := Lib.hid h
  have HL := Lib.hid hl
  obtain ⟨t, htt⟩ : ∃ t, totM l = t := ⟨_, rfl⟩
  have HTT := Lib.hid htt
  have HLM : Hid (longM l = (decide (16 < n) || decide (1024 < t))) := Lib.hid (by unfold longM; rw [hl, htt])
  rw [HLM.out]
  rw [htt] at ht
  clear h hl htt
  go_enter Tryd.func38, Tryd.ntmps38
  go_wp2_with fail
  go_loopw [3, 8] (fun nv iv wr => LongR w l nv iv wr) (fun _ iv _ => n - (intOf iv).toNat)
  case atStart => exact ⟨0, by omega, rfl, rfl, rfl⟩
  case round =>
    obtain ⟨i, hi, rfl, rfl, rfl⟩ := hrel
    have hti := tot_le l i
    by_cases hlt : i < n
    · have hiI : (i : Int) < (n : Int) := by omega
      obtain ⟨b, hb⟩ : ∃ b, l[i]? = some b := ⟨_, List.getElem?_eq_getElem (by rw [HL.out]; exact hlt)⟩
      obtain ⟨ad, B, cb, rfl, hc, _⟩ := H.out i b hb
      have hn2 := tot_take hb
      have hti2 := tot_le l (i + 1)
      have HN := Lib.hid hn2
      rw [HTT.out] at hti hti2
      have hbl : b.length ≤ 1000000000000000 := by omega
      obtain ⟨q, htt⟩ : ∃ q, totM (l.take i) = q := ⟨_, rfl⟩
      rw [htt] at HN hti ⊢
      clear hb hn2 hti2 htt
      go_wp2_with fail
      go_roundw
      case rel => exact ⟨i + 1, by rw [HL.out]; omega, by simp, by rw [HN.out]; simp, rfl⟩
      case measure => simp [intOf]; omega
    · obtain rfl : i = n := by have := HL.out; omega
      have e : l.take i = l := by rw [← HL.out]; simp
      rw [e]
      rw [HTT.out]
      clear e hti
      by_cases h16 : 16 < i
      · have h16I : (16 : Int) < (i : Int) := by omega
        go_wp2_with fail
        go_ret
        exact ⟨by simp [h16], rfl⟩
      · have h16I : ¬ (16 : Int) < (i : Int) := by omega
        by_cases h1 : 1024 < t
        · have h1I : (1024 : Int) < (t : Int) := by omega
          go_wp2_with fail
          go_ret
          exact ⟨by simp, rfl⟩
        · have h1I : ¬ (1024 : Int) < (t : Int) := by omega
          go_wp2_with fail
          go_ret
          exact ⟨by simp, rfl⟩
end Go.Proofs.YtlnfeehokpkgiaaDoor.Wal
/- The journal's 'disk' and 'numbers'. -/
namespace Go.Proofs.YtlnfeehokpkgiaaDoor.Wal
open Go Go.RowKit Mem Pl Disk Crc _root_.Go.Proofs.YtlnfeehokpkgiaaDoor.Frame
theorem field_disks (w : World) (A A2 : Option Addr) (n c n2 c2 : Nat) : (Instr.field 31 (.agg #[.slice A n c, .slice A2 n2 c2]) 0).run Tryd.prog w = .ok (.slice A n c) w := by
  simp [Instr.field, run_underlying (show Tryd.prog.underlying 31 = _ from Tryd.underlying31), part, isAgg, asAgg]
theorem in_disks {pm : PM} {dev N : Nat} {H : List (List UInt8)} {ws : Ws} (hd : Disk pm dev N H ws) (hok : pm.Ok) : pm.disks[dev]? = some N := by
  have h1 := hok.tape dev _ hd.dev
  have h2 := (hok.most dev _ hd.dev).1
  have h3 : dev < pm.disks.length := by
    have : decide (pm.disks.length ≤ dev) = false := h1.symm
    simpa using this
  rw [List.getElem?_append_left h3] at h2
  exact h2
/-- No disk of that number. -/
theorem disk_no {w : World} {F : Nat → Prop} {a : Nat} {pm : PM} (hp : PlantAt w F a pm) (hok : pm.Ok) (dev : Int) (hno : ¬ (0 ≤ dev ∧ dev < (pm.disks.length : Int))) :
    Calls Tryd.prog 33 #[.pointer (some ⟨a, 0, none⟩), .int .i64 dev] w fun e w' => e = .returned (.tuple #[.int .i64 0, .int .i64 1]) ∧ Below w.heap.size w w' := by
  have HSH := Lib.hid (shape_any hp hok)
  have hfld := field_disks
  by_cases hlo : dev < 0
  · clear hno hp hok
    go_enter Tryd.func33, Tryd.ntmps33
    go_wp2_with fail
    go_ret2
    exact ⟨rfl, Below.refl _ _⟩
  · have hge : (pm.disks.length : Int) ≤ dev := by omega
    have hd12 : pm.disks.length ≤ 12 := by have := hok.shape; have := hok.n12; omega
    clear hno hp hok
    go_enter Tryd.func33, Tryd.ntmps33
    go_wp2_with fail
    refine HSH.out.mono ?_
    rintro e w1 ⟨D, T, rfl, hv1, hv1', hb1⟩
    obtain ⟨AD, cD, rfl⟩ := hv1.shape
    obtain ⟨AT, cT, rfl⟩ := hv1'.shape
    have HB1 := Lib.hid hb1
    clear hv1 hv1' hb1
    go_wp2_with fail
    go_ret2
    exact ⟨rfl, HB1.out⟩
theorem disk_on {B : Nat} {w : World} {F : Nat → Prop} {a : Nat} {pm : PM} {n dev N : Nat} {H : List (List UInt8)} {ws : Ws} (hst : St B w F a pm n) (hd : Disk pm dev N H ws) (hn : n ≤ 1000000000) :
    Calls Tryd.prog 33 #[.pointer (some ⟨a, 0, none⟩), .int .i64 (dev : Int)] w fun e w' => ((8 ≤ N ∧ e = .returned (.tuple #[.int .i64 (N : Int), .int .i64 0])) ∨ (N < 8 ∧ e = .returned (.tuple #[.int .i64 0, .int .i64 1]))) ∧ Below w.heap.size w w' := by
  have HSH := Lib.hid (shape_any hst.at_ hst.ok)
  have hfld := field_disks
  have hlt := (List.getElem?_eq_some_iff.1 (in_disks hd hst.ok)).1
  have hN4 := (hd.size hst.ok).2
  have hd12 : pm.disks.length ≤ 12 := by have := hst.ok.shape; have := hst.ok.n12; omega
  have hlen : ∀ w', Below w.heap.size w w' → Calls Tryd.prog 58 #[.pointer (some ⟨a, 0, none⟩), .int .i64 (dev : Int)] w' fun e w2 => e = .returned (.tuple #[.int .i64 (N : Int), .int .i64 0]) ∧ Below w'.heap.size w' w2 := fun w' hb => by
    have h1 := (hst.below hb).len hn (dev : Int)
    have h2 : pm.len (dev : Int) = ((N : Int), 0) := by
      unfold PM.len
      rw [hd.num]
      simp only [hd.dev]
      rfl
    rw [h2] at h1
    exact h1
  have HLEN := Lib.hid hlen
  have hge : ¬ (pm.disks.length : Int) ≤ (dev : Int) := by omega
  clear hst hd hlen
  go_enter Tryd.func33, Tryd.ntmps33
  go_wp2_with fail
  refine HSH.out.mono ?_
  rintro e w1 ⟨D, T, rfl, hv1, hv1', hb1⟩
  obtain ⟨AD, cD, rfl⟩ := hv1.shape
  obtain ⟨AT, cT, rfl⟩ := hv1'.shape
  have HB1 := Lib.hid hb1
  have HL1 := Lib.hid (HLEN.out w1 hb1)
  clear hv1 hv1' hb1
  go_wp2_with fail
  refine HL1.out.mono ?_
  rintro e w2 ⟨rfl, hb2⟩
  have HB2 := Lib.hid (HB1.out.trans (hb2.mono HB1.out.size))
  clear hb2
  by_cases h8 : N < 8
  · have h8I : (N : Int) < 8 := by omega
    go_wp2_with fail
    go_ret2
    exact ⟨.inr ⟨h8, rfl⟩, HB2.out⟩
  · have h8I : ¬ (N : Int) < 8 := by omega
    go_wp2_with fail
    go_ret2
    exact ⟨.inl ⟨by omega, rfl⟩, HB2.out⟩
/-- Numbers of four bytes each. -/
def numsV (bs : List UInt8) (n : Nat) : List Value := (List.range n).map fun i => .int .u64 (be ((bs.drop (4 * i)).take 4) : Int)
theorem numsV_len (bs : List UInt8) (n : Nat) : (numsV bs n).length = n := by simp [numsV]
theorem numsV_next (bs : List UInt8) (n : Nat) : numsV bs (n + 1) = numsV bs n ++ [.int .u64 (be ((bs.drop (4 * n)).take 4) : Int)] := by
  unfold numsV
  rw [List.range_succ, List.map_append]
  rfl
theorem numsV_get {bs : List UInt8} {n i : Nat} (h : i < n) : (numsV bs n)[i]? = some (.int .u64 (be ((bs.drop (4 * i)).take 4) : Int)) := by simp [numsV, h]
theorem u64Ty : ElTy Tryd.prog 129 85 1 8 (.int .u64 0) := ⟨Tryd.underlying129, by kernel_rfl, by kernel_rfl, by decide⟩
def NumR (w : World) (bs : List UInt8) (m n : Nat) (lv bv iv : Value) (wr : World) : Prop :=
  ∃ (i : Nat) (AL AR : Option Addr) (cL cR : Nat), i ≤ n ∧ iv = .int .i64 (i : Int) ∧ lv = .slice AL i cL ∧ OwnG wr w.heap.size 85 1 AL i cL (numsV bs i) ∧ bv = .slice AR (m - 4 * i) cR ∧ BAt wr AR (bs.drop (4 * i)) ∧ m - 4 * i ≤ cR ∧ Below w.heap.size w wr
set_option maxRecDepth 100000 in
set_option maxHeartbeats 2000000 in
theorem numbers_any (w : World) (A : Option Addr) (bs : List UInt8) (m cap n : Nat) (hl : bs.length = m) (hcap : m ≤ cap) (hm : m ≤ 1000000) (hb : BAt w A bs) (hn : 4 * n ≤ m) :
    Calls Tryd.prog 65 #[.slice A m cap, .int .i64 (n : Int)] w fun e w' => ∃ AL AR cL cR, e = .returned (.tuple #[.slice AL n cL, .slice AR (m - 4 * n) cR]) ∧ OwnG w' w.heap.size 85 1 AL n cL (numsV bs n) ∧ BAt w' AR (bs.drop (4 * n)) ∧ m - 4 * n ≤ cR ∧ Below w.heap.size w w' := by
  have HB := Lib.hid hb
  have HL := Lib.hid hl
  clear hb hl
  go_enter Tryd.func65, Tryd.ntmps65
  go_wp2_with fail
  go_loopw [6, 0, 11] (fun lv bv iv wr => NumR w bs m n lv bv iv wr) (fun _ _ iv _ => n - (intOf iv).toNat)
  case atStart => exact ⟨0, none, A, 0, cap, by omega, rfl, rfl, OwnG.nil_ _ _ _ _, rfl, by simpa using HB.out, by simpa using hcap, Below.refl _ _⟩
  case round =>
    obtain ⟨i, AL, AR, cL, cR, hi, rfl, rfl, ho, rfl, hb, hc, hbw⟩ := hrel
    have HO := Lib.hid ho
    have HBR := Lib.hid hb
    have HBW := Lib.hid hbw
    clear ho hb hbw
    by_cases hlt : i < n
    · have hiI : (i : Int) < (n : Int) := by omega
      have HTK := Lib.hid (take_yes AR (bs.drop (4 * i)) (m - 4 * i) cR 4 wr (by rw [List.length_drop, HL.out]) hc (by omega) HBR.out (by omega) (by omega) (by omega))
      obtain ⟨x, hx⟩ : ∃ x, be ((bs.drop (4 * i)).take 4) = x := ⟨_, rfl⟩
      have HNX : Hid (numsV bs (i + 1) = numsV bs i ++ [.int .u64 (x : Int)]) := Lib.hid (by rw [numsV_next, hx])
      have HX := Lib.hid hx
      clear hx
      go_wp2_with fail
      refine HTK.out.mono ?_
      rintro e w2 ⟨A2, N2, c2, rfl, ho2, hb2⟩
      have hN2 : N2 = m - 4 * (i + 1) := by have := ho2.len; rw [List.length_drop, List.length_drop, HL.out] at this; omega
      subst hN2
      have HO2 : Hid (BAt w2 A2 (bs.drop (4 * (i + 1)))) := Lib.hid (by
        have := ho2.bat
        rw [List.drop_drop] at this
        rwa [show 4 * (i + 1) = 4 * i + 4 by omega])
      have hc2 := ho2.cap_le.1
      have HB2 := Lib.hid (HBW.out.trans (hb2.mono HBW.out.size))
      have HNE : Hid (A2 = none ∨ A2.map (·.block) ≠ (Value.slice AL i cL).ownBlock) := Lib.hid (by
        rcases ho2.form with ⟨h, _⟩ | ⟨g2, h, h1, _⟩
        · exact .inl h
        · refine .inr ?_
          rw [h]
          rcases HO.out.form with ⟨h', _⟩ | ⟨g3, h', _, h3⟩
          · rw [h']
            intro e
            cases e
          · rw [h']
            intro e
            injection e with e
            have e' : g2 = g3 := e
            omega)
      have HOW2 := Lib.hid ho2
      have HOL := Lib.hid (HO.out.below hb2)
      clear ho2 hb2 HTK HO HBR
      simp only
      rw [HX.out]
      go_wp2_with
        (at_builtin
         (refine wpList_append_g rfl (.tmp 19) (.tmp 21) _ rfl w.heap.size _ 1 8 _ u64Ty AL i cL _ rfl (HOL.out.alloc _) ⟨w2.heap.size, 0, none⟩ 1 1 [.int .u64 (x : Int)] rfl rfl (blk_news (Blk.new w2 _ _)) (by intro v hv; simp at hv; subst hv; rfl) ?c1 ?c2 ?c3 ?_
          case c1 => unfold maxLen; omega
          case c2 => omega
          case c3 => have := HB2.out.size; simp; omega
          intro A3 c3 w3 ho3 hg3 hb3 hA3
          have HO3 := Lib.hid ho3
          have hb23 := (below_al' (w := w2) (.cells #[.int .u64 (x : Int)] 85))
          have HB3 := Lib.hid (HB2.out.trans ((Mods.of_below (F := fun _ => False) (hb23.mono HB2.out.size)).below (fun _ _ h => h) |>.trans hb3))
          have HBT3 : Hid (BAt w3 A2 (bs.drop (4 * (i + 1)))) := Lib.hid (by
            have := ((HOW2.out.alloc (.cells #[.int .u64 (x : Int)] 85)).kept hg3 HNE.out).bat
            rw [List.drop_drop] at this
            rwa [show 4 * (i + 1) = 4 * i + 4 by omega])
          clear ho3 hg3 hb3 hA3 hb23))
      go_roundw
      case rel => exact ⟨i + 1, A3, A2, c3, c2, by omega, by simp, rfl, by rw [HNX.out]; exact HO3.out, rfl, HBT3.out, hc2, HB3.out⟩
      case measure => simp [intOf]; omega
    · obtain rfl : i = n := by omega
      go_wp2_with fail
      go_ret2
      exact ⟨AL, AR, cL, cR, rfl, HO.out, HBR.out, hc, HBW.out⟩
end Go.Proofs.YtlnfeehokpkgiaaDoor.Wal
