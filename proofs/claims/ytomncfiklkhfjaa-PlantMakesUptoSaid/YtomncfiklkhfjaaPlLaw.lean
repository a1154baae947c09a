/- What the laws of the plant share: 'full', 'same', a plant within a law (St), rows held beside it (Held). -/
import Derived.Test.YtomncfiklkhfjaaPlOk
import Derived.Test.YtomncfiklkhfjaaPlNew
import Derived.Test.YtomncfiklkhfjaaPlBoot
import Derived.Test.YtomncfiklkhfjaaPlMisc
import Derived.WalkLawsBesides
import Derived.Stop.BytesEq
namespace Go.Proofs.Ytomncfiklkhfjaa.Pl
open Go Go.RowKit Mem
theorem strTy : Try.prog.underlying 9 = some .string := Try.underlying9
set_option maxHeartbeats 400000 in
theorem same_any (A B : Option Addr) (as_ bs : List UInt8) (n m c d : Nat) (w : World) (hn : as_.length = n) (hm : bs.length = m) (ha : BAt w A as_) (hb : BAt w B bs) :
    Calls Try.prog 35 #[.slice A n c, .slice B m d] w fun e w' => e = .returned (.bool (decide (as_ = bs))) ∧ w = w' := by
  have h1 := run_toString (P := Try.prog) byteTy strTy c ha hn
  have h2 := run_toString (P := Try.prog) byteTy strTy d hb hm
  have h3 : ((⟨as_.toArray⟩ : ByteArray).toList == (⟨bs.toArray⟩ : ByteArray).toList) = decide (as_ = bs) := by
    rw [← beq_toListBytes]
    show (as_.toArray == bs.toArray) = _
    rw [Bool.eq_iff_iff, beq_iff_eq, decide_eq_true_iff]
    simp
  clear ha hb hn hm
  generalize (⟨as_.toArray⟩ : ByteArray) = s at *
  generalize (⟨bs.toArray⟩ : ByteArray) = t at *
  have H3 := Lib.hid h3
  clear h3
  go_enter Try.func35, Try.ntmps35
  go_wp2
  go_ret
  exact ⟨by rw [← H3.out]; rfl, rfl⟩
/-- A sector of one byte. -/
def fullB (c : UInt8) : List UInt8 := List.replicate 64 c
theorem fullB_len (c : UInt8) : (fullB c).length = 64 := by simp [fullB]
theorem fullB_set (c : UInt8) (k : Nat) (h : k < 64) : (List.replicate k c ++ List.replicate (64 - k) (0 : UInt8)).set k c = List.replicate (k + 1) c ++ List.replicate (64 - (k + 1)) 0 := by
  refine List.ext_getElem? fun i => ?_
  rw [List.getElem?_set]
  simp only [List.length_append, List.length_replicate, List.getElem?_append, List.getElem?_replicate]
  rcases Nat.lt_trichotomy i k with h1 | h1 | h1
  · rw [if_neg (by omega), if_pos h1, if_pos h1, if_pos (by omega), if_pos (by omega)]
  · subst h1
    rw [if_pos rfl, if_pos (by omega), if_pos (by omega), if_pos (by omega)]
  · have e : (i - k < 64 - k) ↔ (i - (k + 1) < 64 - (k + 1)) := by omega
    have h2 : ¬ k = i := by omega
    have h3 : ¬ i < k := by omega
    have h4 : ¬ i < k + 1 := by omega
    simp only [h2, h3, h4, if_false, e]
/-- The call gives back a sector of its own. -/
def RetF (w : World) (b : List UInt8) (e : Ending) (w' : World) : Prop :=
  ∃ g, e = .returned (.slice (some ⟨g, 0, none⟩) 64 64) ∧ Own w' w.heap.size 5 (some ⟨g, 0, none⟩) 64 64 b ∧ Below w.heap.size w w'
def FullR (w : World) (c : UInt8) (iv : Value) (wr : World) : Prop :=
  ∃ k : Nat, k ≤ 64 ∧ iv = .int .i64 (k : Int) ∧ Below w.heap.size w wr ∧ Blk wr w.heap.size 5 (cellsOf (List.replicate k c ++ List.replicate (64 - k) 0))
set_option maxRecDepth 100000 in
set_option maxHeartbeats 2000000 in
theorem full_any (w : World) (c : UInt8) : Calls Try.prog 31 #[.int .u8 (V8 c)] w (RetF w (fullB c)) := by
  have hmk := run_make64
  have HST : Hid (FullR w c (.int .i64 0) (w.alloc (.cells (zeros.map B8).toArray 5))) := Lib.hid ⟨0, by omega, rfl, below_al' _, by
    have := Blk.new w 5 (zeros.map B8).toArray
    simpa [cellsOf, zeros] using this⟩
  go_enter Try.func31, Try.ntmps31
  go_wp2_with fail
  clear hmk
  go_loopw [4] (fun iv wr => FullR w c iv wr) (fun iv _ => 64 - (intOf iv).toNat)
  case atStart => exact HST.out
  case round =>
    obtain ⟨k, hk, rfl, hbl, hblk⟩ := hrel
    have HBL := Lib.hid hbl
    have HBK := Lib.hid hblk
    by_cases hlt : k < 64
    · have hcz := hblk.byte (k := k) (by simp; omega)
      have hfz := hblk.frozen k
      have hki : (k : Int) < 64 := by omega
      have HN := Lib.hid (hblk.setByte k c)
      have HM := Lib.hid (((Mods.of_below (F := fun _ => False) hbl).setCell (p := ⟨w.heap.size, k, none⟩) (.inr (Nat.le_refl _)) (.int .u8 (V8 c))).below fun _ _ h => h)
      clear hbl hblk
      go_wp2_with fail
      go_roundw
      case rel =>
        refine ⟨k + 1, hlt, by simp, HM.out, ?_⟩
        have := HN.out
        rw [fullB_set c k hlt] at this
        exact this
      case measure => simp [intOf]; omega
    · obtain rfl : k = 64 := by omega
      clear hbl hblk
      go_wp2_with fail
      go_ret
      refine ⟨_, rfl, Own.of_blk (bs := fullB c) (by simpa [fullB] using HBK.out) (Nat.le_refl _) (fullB_len c) (by decide), HBL.out⟩
/-- A plant within a law that began in a world of B blocks; so many calls have been made. -/
structure St (B : Nat) (w : World) (F : Nat → Prop) (a : Nat) (p : PM) (n : Nat) : Prop where
  at_ : PlantAt w F a p
  ok : p.Ok
  lt : ∀ g, F g → B ≤ g ∧ g < w.heap.size
  steps : p.steps ≤ n
  waits : p.waits.length ≤ n
/-- Bytes beside a plant. -/
def Held (w : World) (F : Nat → Prop) (A : Option Addr) (bs : List UInt8) : Prop := BAt w A bs ∧ ∀ ad, A = some ad → ¬ F ad.block ∧ ad.block < w.heap.size
section
variable {B : Nat} {w w' : World} {F G : Nat → Prop} {a c : Nat} {p q : PM} {n : Nat} {A : Option Addr} {bs : List UInt8}
theorem addr_block (ad : Addr) (k : Nat) : (ad.add k).block = ad.block := by unfold Addr.add; split <;> rfl
theorem Held.keep (h : Held w F A bs) (hk : ∀ ad, A = some ad → w'.heap[ad.block]? = w.heap[ad.block]?) (hs : w.heap.size ≤ w'.heap.size) (hG : ∀ ad, A = some ad → ¬ F ad.block → ad.block < w.heap.size → ¬ G ad.block) : Held w' G A bs :=
  ⟨h.1.keep fun ad k v hA _ hc => by
    have := hk ad hA
    simp only [World.cell?, addr_block] at hc ⊢
    rw [this]
    exact hc, fun ad hA => ⟨hG ad hA (h.2 ad hA).1 (h.2 ad hA).2, Nat.lt_of_lt_of_le (h.2 ad hA).2 hs⟩⟩
theorem Held.mods (h : Held w F A bs) (hm : Mods w.heap.size F w w') : Held w' (Grow F w w') A bs :=
  h.keep (fun ad hA => hm.keep _ (h.2 ad hA).2 (h.2 ad hA).1) hm.size fun ad _ hn hlt hg => by
    rcases hg with hg | hg
    · exact hn hg
    · omega
theorem Held.below (h : Held w F A bs) (hb : Below w.heap.size w w') : Held w' F A bs :=
  h.keep (fun ad hA => hb.block _ (h.2 ad hA).2) hb.size fun ad _ hn _ => hn
theorem Held.of_own {base : Nat} {m k : Nat} (h : Own w base 5 A m k bs) (hF : ∀ g, F g → g < base) : Held w F A bs := ⟨h.bat, fun ad hA => by
  rcases h.form with ⟨h, _⟩ | ⟨g, h, h1, h2⟩
  · rw [h] at hA; cases hA
  · rw [h] at hA
    injection hA with hA
    subst hA
    exact ⟨fun hf => by have := hF g hf; omega, h2⟩⟩
theorem Held.nil_ (w : World) (F : Nat → Prop) : Held w F none [] := ⟨BAt.nil_ _ _, fun ad h => by cases h⟩
theorem St.low (h : St B w F a p n) (hn : n ≤ 1000000000) : p.Low := ⟨by have := h.steps; omega, by have := h.waits; omega⟩
theorem St.below (h : St B w F a p n) (hb : Below w.heap.size w w') : St B w' F a p n := ⟨h.at_.below hb, h.ok, fun g hg => ⟨(h.lt g hg).1, Nat.lt_of_lt_of_le (h.lt g hg).2 hb.size⟩, h.steps, h.waits⟩
theorem St.next (h : St B w F a p n) (hB : B ≤ w.heap.size) (hp : PlantAt w' (Grow F w w') a q) (hm : Mods w.heap.size F w w') (hok : q.Ok) (h1 : q.steps ≤ p.steps + 1) (h2 : q.waits.length ≤ p.waits.length + 1) : St B w' (Grow F w w') a q (n + 1) :=
  ⟨hp, hok, fun g hg => by
    rcases hg with hg | hg
    · exact ⟨(h.lt g hg).1, Nat.lt_of_lt_of_le (h.lt g hg).2 hm.size⟩
    · exact ⟨Nat.le_trans hB hg.1, hg.2⟩, by have := h.steps; omega, by have := h.waits; omega⟩
/-- What such a call leaves. -/
def Gone (B : Nat) (w : World) (F : Nat → Prop) (a : Nat) (q : PM) (n : Nat) (w' : World) : Prop := St B w' (Grow F w w') a q (n + 1) ∧ Mods w.heap.size F w w'
theorem St.bel {W : World} (h : St B w F a p n) (hW : Below B W w) (hB : B ≤ w.heap.size) (hm : Mods w.heap.size F w w') : Below B W w' :=
  hW.trans ((hm.mono hB fun _ _ hf => hf).below fun k hk hf => by have := (h.lt k hf).1; omega)
theorem St.write (h : St B w F a p n) (hB : B ≤ w.heap.size) (hn : n ≤ 1000000000) (i k : Int) (A : Option Addr) (m cap : Nat) (b : List UInt8) (hb : BAt w A b) (hl : b.length = m) :
    Calls Try.prog 36 #[.pointer (some ⟨a, 0, none⟩), .int .i64 i, .int .i64 k, .slice A m cap] w fun e w' => e = .returned (.int .i64 (p.write i k b).2) ∧ Gone B w F a (p.write i k b).1 n w' :=
  (write_any h.at_ h.ok (h.low hn) i k A m cap b hb hl).mono fun e w' ⟨he, hp, hm⟩ => ⟨he, h.next hB hp hm (h.ok.write i k b) (PM.write_low p i k b).1 (PM.write_low p i k b).2, hm⟩
theorem St.append (h : St B w F a p n) (hB : B ≤ w.heap.size) (hn : n ≤ 1000000000) (i : Int) (A : Option Addr) (m cap : Nat) (b : List UInt8) (hb : BAt w A b) (hl : b.length = m) :
    Calls Try.prog 30 #[.pointer (some ⟨a, 0, none⟩), .int .i64 i, .slice A m cap] w fun e w' => e = .returned (.tuple #[.int .i64 (p.append i b).2.1, .int .i64 (p.append i b).2.2]) ∧ Gone B w F a (p.append i b).1 n w' :=
  (append_any h.at_ h.ok (h.low hn) i A m cap b hb hl).mono fun e w' ⟨he, hp, hm⟩ => ⟨he, h.next hB hp hm (h.ok.append i b) (PM.append_low p i b).1 (PM.append_low p i b).2, hm⟩
theorem St.flush (h : St B w F a p n) (hB : B ≤ w.heap.size) (hn : n ≤ 1000000000) (i : Int) :
    Calls Try.prog 29 #[.pointer (some ⟨a, 0, none⟩), .int .i64 i] w fun e w' => e = .returned (.int .i64 (p.flush i).2) ∧ Gone B w F a (p.flush i).1 n w' :=
  (flush_any h.at_ h.ok (h.low hn) i).mono fun e w' ⟨he, hp, hm⟩ => ⟨he, h.next hB hp hm (h.ok.flush i) (PM.flush_low p i).1 (Nat.le_succ_of_le (PM.flush_low p i).2), hm⟩
theorem St.setFuse (h : St B w F a p n) (hB : B ≤ w.heap.size) (i : Int) (hi : i < 9223372036854775808) :
    Calls Try.prog 38 #[.pointer (some ⟨a, 0, none⟩), .int .i64 i] w fun e w' => e = .returned (.tuple #[]) ∧ Gone B w F a (p.setFuse i) n w' :=
  (fuse_any h.at_ i).mono fun e w' ⟨he, hp, hm⟩ => ⟨he, h.next hB hp hm (h.ok.setFuse hi) (by rw [(PM.setFuse_low p i).1]; omega) (by rw [(PM.setFuse_low p i).2]; omega), hm⟩
theorem St.boot (h : St B w F a p n) (hB : B ≤ w.heap.size) (hn : n ≤ 1000000000) (AK : Option Addr) (nk ck : Nat) (keep : List Int) (hk : IAt w AK keep) (hkl : keep.length = nk) (hkn : keep ≠ [] → ∀ ad, AK = some ad → ¬ F ad.block) (hnk : nk ≤ 9223372036854775807) :
    Calls Try.prog 32 #[.pointer (some ⟨a, 0, none⟩), .slice AK nk ck] w fun e w' => e = .returned (.tuple #[]) ∧ Gone B w F a (p.boot keep) n w' :=
  (boot_any h.at_ h.ok (h.low hn) AK nk ck keep hk hkl hkn hnk).mono fun e w' ⟨he, hp, hm⟩ => ⟨he, h.next hB (hp.mono fun g _ hg => .inl hg) hm (h.ok.boot keep) (by rw [(PM.boot_low p keep).1]; omega) (by rw [(PM.boot_low p keep).2]; simp), hm⟩
theorem St.read (h : St B w F a p n) (hn : n ≤ 1000000000) (i k : Int) :
    Calls Try.prog 34 #[.pointer (some ⟨a, 0, none⟩), .int .i64 i, .int .i64 k] w fun e w' => ∃ A m cap, e = .returned (.tuple #[.slice A m cap, .int .i64 (p.read i k).2]) ∧ m = ((p.read i k).1.getD []).length ∧ Held w' F A ((p.read i k).1.getD []) ∧ Below w.heap.size w w' :=
  (read_any h.at_ h.ok (h.low hn) i k).mono fun e w' ⟨A, m, cap, he, ho, hb⟩ => ⟨A, m, cap, he, ho.len.symm, Held.of_own ho fun g hg => (h.lt g hg).2, hb⟩
theorem St.len (h : St B w F a p n) (hn : n ≤ 1000000000) (i : Int) :
    Calls Try.prog 33 #[.pointer (some ⟨a, 0, none⟩), .int .i64 i] w fun e w' => e = .returned (.tuple #[.int .i64 (p.len i).1, .int .i64 (p.len i).2]) ∧ Below w.heap.size w w' :=
  (len_any h.at_ h.ok (h.low hn) i).mono fun e w' ⟨he, k, hw⟩ => ⟨he, by rw [hw]; exact below_drewN (Below.refl _ _) k⟩
theorem St.new {o : PM} (h : PlantAt w' (New w w') a o) (hB : B ≤ w.heap.size) {zs1 zs2 : List Int} (hn : newM zs1 zs2 = some o) : St B w' (New w w') a o 0 := by
  obtain ⟨h1, _, h3, h4, _⟩ := newM_ok hn
  exact ⟨h, h1, fun g hg => ⟨Nat.le_trans hB hg.1, hg.2⟩, by rw [h3]; omega, by rw [h4]; simp⟩
end
end Go.Proofs.Ytomncfiklkhfjaa.Pl
