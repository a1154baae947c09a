/- What the laws of the plant share: 'full', 'same', a plant within a law (St), rows held beside it (Held). -/
import Derived.Test.YtomncfiklkhfjaaFold5
import Derived.Test.YtomncfiklkhfjaaPlNew
import Derived.Test.YtomncfiklkhfjaaPlBoot
import Derived.WalkLawsBesides
import Derived.Stop.BytesEq
namespace Go.Proofs.Ytomncfiklkhfjaa.Pl
open Go Go.RowKit Mem
theorem strTy : Try.prog.underlying 9 = some .string := Try.underlying9
set_option maxHeartbeats 400000 in
theorem same_any (A B : Option Addr) (as_ bs : List UInt8) (n m c d : Nat) (w : World) (hn : as_.length = n) (hm : bs.length = m) (ha : BAt w A as_) (hb : BAt w B bs) :
    Calls Try.prog 35 #[.slice A n c, .slice B m d] w fun e w' => e = .returned (.bool (decide (as_ = bs))) ∧ w = w' := by
  have h1 := run_toString (P := Try.prog) byteTy strTy c ha hn
  have h2 := run_toString (P := Try.prog) byteTy strTy d hb hm
  have h3 : ((⟨as_.toArray⟩ : ByteArray).toList == (⟨bs.toArray⟩ : ByteArray).toList) = decide (as_ = bs) := by
    rw [← beq_toListBytes]
    show (as_.toArray == bs.toArray) = _
    rw [Bool.eq_iff_iff, beq_iff_eq, decide_eq_true_iff]
    simp
  clear ha hb hn hm
  generalize (⟨as_.toArray⟩ : ByteArray) = s at *
  generalize (⟨bs.toArray⟩ : ByteArray) = t at *
  have H3 := Lib.hid h3
  clear h3
  go_enter Try.func35, Try.ntmps35
  go_wp2
  go_ret
  exact ⟨by rw [← H3.out]; rfl, rfl⟩
/-- A sector of one byte. -/
def fullB (c : UInt8) : List UInt8 := List.replicate 64 c
theorem fullB_len (c : UInt8) : (fullB c).length = 64 := by simp [fullB]
theorem fullB_set (c : UInt8) (k : Nat) (h : k < 64) : (List.replicate k c ++ List.replicate (64 - k) (0 : UInt8)).set k c = List.replicate (k + 1) c ++ List.replicate (64 - (k + 1)) 0 := by
  refine List.ext_getElem? fun i => ?_
  rw [List.getElem?_set]
  simp only [List.length_append, List.length_replicate, List.getElem?_append, List.getElem?_replicate]
  rcases Nat.lt_trichotomy i k with h1 | h1 | h1
  · rw [if_neg (by omega), if_pos h1, if_pos h1, if_pos (by omega), if_pos (by omega)]
  · subst h1
    rw [if_pos rfl, if_pos (by omega), if_pos (by omega), if_pos (by omega)]
  · have e : (i - k < 64 - k) ↔ (i - (k + 1) < 64 - (k + 1)) := by omega
    have h2 : ¬ k = i := by omega
    have h3 : ¬ i < k := by omega
    have h4 : ¬ i < k + 1 := by omega
    simp only [h2, h3, h4, if_false, e]
/-- The call gives back a sector of its own. -/
def RetF (w : World) (b : List UInt8) (e : Ending) (w' : World) : Prop :=
  ∃ g, e = .returned (.slice (some ⟨g, 0, none⟩) 64 64) ∧ Own w' w.heap.size 5 (some ⟨g, 0, none⟩) 64 64 b ∧ Below w.heap.size w w'
def FullR (w : World) (c : UInt8) (iv : Value) (wr : World) : Prop :=
  ∃ k : Nat, k ≤ 64 ∧ iv = .int .i64 (k : Int) ∧ Below w.heap.size w wr ∧ Blk wr w.heap.size 5 (cellsOf (List.replicate k c ++ List.replicate (64 - k) 0))
set_option maxRecDepth 100000 in
set_option maxHeartbeats 2000000 in
theorem full_any (w : World) (c : UInt8) : Calls Try.prog 31 #[.int .u8 (V8 c)] w (RetF w (fullB c)) := by
  have hmk := run_make64
  have HST : Hid (FullR w c (.int .i64 0) (w.alloc (.cells (zeros.map B8).toArray 5))) := Lib.hid ⟨0, by omega, rfl, below_al' _, by
    have := Blk.new w 5 (zeros.map B8).toArray
    simpa [cellsOf, zeros] using this⟩
  go_enter Try.func31, Try.ntmps31
  go_wp2_with fail
  clear hmk
  go_loopw [4] (fun iv wr => FullR w c iv wr) (fun iv _ => 64 - (intOf iv).toNat)
  case atStart => exact HST.out
  case round =>
    obtain ⟨k, hk, rfl, hbl, hblk⟩ := hrel
    have HBL := Lib.hid hbl
    have HBK := Lib.hid hblk
    by_cases hlt : k < 64
    · have hcz := hblk.byte (k := k) (by simp; omega)
      have hfz := hblk.frozen k
      have hki : (k : Int) < 64 := by omega
      have HN := Lib.hid (hblk.setByte k c)
      have HM := Lib.hid (((Mods.of_below (F := fun _ => False) hbl).setCell (p := ⟨w.heap.size, k, none⟩) (.inr (Nat.le_refl _)) (.int .u8 (V8 c))).below fun _ _ h => h)
      clear hbl hblk
      go_wp2_with fail
      go_roundw
      case rel =>
        refine ⟨k + 1, hlt, by simp, HM.out, ?_⟩
        have := HN.out
        rw [fullB_set c k hlt] at this
        exact this
      case measure => simp [intOf]; omega
    · obtain rfl : k = 64 := by omega
      clear hbl hblk
      go_wp2_with fail
      go_ret
      refine ⟨_, rfl, Own.of_blk (bs := fullB c) (by simpa [fullB] using HBK.out) (Nat.le_refl _) (fullB_len c) (by decide), HBL.out⟩
/-- A plant within a law that began in a world of B blocks; so many calls have been made. -/
structure St (B : Nat) (w : World) (F : Nat → Prop) (a : Nat) (p : PM) (n : Nat) : Prop where
  at_ : PlantAt w F a p
  ok : p.Ok
  lt : ∀ g, F g → B ≤ g ∧ g < w.heap.size
  steps : p.steps ≤ n
  waits : p.waits.length ≤ n
/-- Bytes beside a plant. -/
def Held (w : World) (F : Nat → Prop) (A : Option Addr) (bs : List UInt8) : Prop := BAt w A bs ∧ ∀ ad, A = some ad → ¬ F ad.block ∧ ad.block < w.heap.size
section
variable {B : Nat} {w w' : World} {F G : Nat → Prop} {a c : Nat} {p q : PM} {n : Nat} {A : Option Addr} {bs : List UInt8}
theorem addr_block (ad : Addr) (k : Nat) : (ad.add k).block = ad.block := by unfold Addr.add; split <;> rfl
theorem Held.keep (h : Held w F A bs) (hk : ∀ ad, A = some ad → w'.heap[ad.block]? = w.heap[ad.block]?) (hs : w.heap.size ≤ w'.heap.size) (hG : ∀ ad, A = some ad → ¬ F ad.block → ad.block < w.heap.size → ¬ G ad.block) : Held w' G A bs :=
  ⟨h.1.keep fun ad k v hA _ hc => by
    have := hk ad hA
    simp only [World.cell?, addr_block] at hc ⊢
    rw [this]
    exact hc, fun ad hA => ⟨hG ad hA (h.2 ad hA).1 (h.2 ad hA).2, Nat.lt_of_lt_of_le (h.2 ad hA).2 hs⟩⟩
theorem Held.mods (h : Held w F A bs) (hm : Mods w.heap.size F w w') : Held w' (Grow F w w') A bs :=
  h.keep (fun ad hA => hm.keep _ (h.2 ad hA).2 (h.2 ad hA).1) hm.size fun ad _ hn hlt hg => by
    rcases hg with hg | hg
    · exact hn hg
    · omega
theorem Held.below (h : Held w F A bs) (hb : Below w.heap.size w w') : Held w' F A bs :=
  h.keep (fun ad hA => hb.block _ (h.2 ad hA).2) hb.size fun ad _ hn _ => hn
theorem Held.of_own {base : Nat} {m k : Nat} (h : Own w base 5 A m k bs) (hF : ∀ g, F g → g < base) : Held w F A bs := ⟨h.bat, fun ad hA => by
  rcases h.form with ⟨h, _⟩ | ⟨g, h, h1, h2⟩
  · rw [h] at hA; cases hA
  · rw [h] at hA
    injection hA with hA
    subst hA
    exact ⟨fun hf => by have := hF g hf; omega, h2⟩⟩
theorem Held.nil_ (w : World) (F : Nat → Prop) : Held w F none [] := ⟨BAt.nil_ _ _, fun ad h => by cases h⟩
theorem St.low (h : St B w F a p n) (hn : n ≤ 1000000000) : p.Low := ⟨by have := h.steps; omega, by have := h.waits; omega⟩
theorem St.below (h : St B w F a p n) (hb : Below w.heap.size w w') : St B w' F a p n := ⟨h.at_.below hb, h.ok, fun g hg => ⟨(h.lt g hg).1, Nat.lt_of_lt_of_le (h.lt g hg).2 hb.size⟩, h.steps, h.waits⟩
theorem St.next (h : St B w F a p n) (hB : B ≤ w.heap.size) (hp : PlantAt w' (Grow F w w') a q) (hm : Mods w.heap.size F w w') (hok : q.Ok) (h1 : q.steps ≤ p.steps + 1) (h2 : q.waits.length ≤ p.waits.length + 1) : St B w' (Grow F w w') a q (n + 1) :=
  ⟨hp, hok, fun g hg => by
    rcases hg with hg | hg
    · exact ⟨(h.lt g hg).1, Nat.lt_of_lt_of_le (h.lt g hg).2 hm.size⟩
    · exact ⟨Nat.le_trans hB hg.1, hg.2⟩, by have := h.steps; omega, by have := h.waits; omega⟩
/-- What such a call leaves. -/
def Gone (B : Nat) (w : World) (F : Nat → Prop) (a : Nat) (q : PM) (n : Nat) (w' : World) : Prop := St B w' (Grow F w w') a q (n + 1) ∧ Mods w.heap.size F w w'
theorem St.bel {W : World} (h : St B w F a p n) (hW : Below B W w) (hB : B ≤ w.heap.size) (hm : Mods w.heap.size F w w') : Below B W w' :=
  hW.trans ((hm.mono hB fun _ _ hf => hf).below fun k hk hf => by have := (h.lt k hf).1; omega)
theorem St.write (h : St B w F a p n) (hB : B ≤ w.heap.size) (hn : n ≤ 1000000000) (i k : Int) (A : Option Addr) (m cap : Nat) (b : List UInt8) (hb : BAt w A b) (hl : b.length = m) :
    Calls Try.prog 36 #[.pointer (some ⟨a, 0, none⟩), .int .i64 i, .int .i64 k, .slice A m cap] w fun e w' => e = .returned (.int .i64 (p.write i k b).2) ∧ Gone B w F a (p.write i k b).1 n w' :=
  (write_any h.at_ h.ok (h.low hn) i k A m cap b hb hl).mono fun e w' ⟨he, hp, hm⟩ => ⟨he, h.next hB hp hm (h.ok.write i k b) (PM.write_low p i k b).1 (PM.write_low p i k b).2, hm⟩
theorem St.append (h : St B w F a p n) (hB : B ≤ w.heap.size) (hn : n ≤ 1000000000) (i : Int) (A : Option Addr) (m cap : Nat) (b : List UInt8) (hb : BAt w A b) (hl : b.length = m) :
    Calls Try.prog 30 #[.pointer (some ⟨a, 0, none⟩), .int .i64 i, .slice A m cap] w fun e w' => e = .returned (.tuple #[.int .i64 (p.append i b).2.1, .int .i64 (p.append i b).2.2]) ∧ Gone B w F a (p.append i b).1 n w' :=
  (append_any h.at_ h.ok (h.low hn) i A m cap b hb hl).mono fun e w' ⟨he, hp, hm⟩ => ⟨he, h.next hB hp hm (h.ok.append i b) (PM.append_low p i b).1 (PM.append_low p i b).2, hm⟩
theorem St.flush (h : St B w F a p n) (hB : B ≤ w.heap.size) (hn : n ≤ 1000000000) (i : Int) :
    Calls Try.prog 29 #[.pointer (some ⟨a, 0, none⟩), .int .i64 i] w fun e w' => e = .returned (.int .i64 (p.flush i).2) ∧ Gone B w F a (p.flush i).1 n w' :=
  (flush_any h.at_ h.ok (h.low hn) i).mono fun e w' ⟨he, hp, hm⟩ => ⟨he, h.next hB hp hm (h.ok.flush i) (PM.flush_low p i).1 (Nat.le_succ_of_le (PM.flush_low p i).2), hm⟩
theorem St.setFuse (h : St B w F a p n) (hB : B ≤ w.heap.size) (i : Int) (hi : i < 9223372036854775808) :
    Calls Try.prog 38 #[.pointer (some ⟨a, 0, none⟩), .int .i64 i] w fun e w' => e = .returned (.tuple #[]) ∧ Gone B w F a (p.setFuse i) n w' :=
  (fuse_any h.at_ i).mono fun e w' ⟨he, hp, hm⟩ => ⟨he, h.next hB hp hm (h.ok.setFuse hi) (by rw [(PM.setFuse_low p i).1]; omega) (by rw [(PM.setFuse_low p i).2]; omega), hm⟩
theorem St.boot (h : St B w F a p n) (hB : B ≤ w.heap.size) (hn : n ≤ 1000000000) (AK : Option Addr) (nk ck : Nat) (keep : List Int) (hk : IAt w AK keep) (hkl : keep.length = nk) (hkn : keep ≠ [] → ∀ ad, AK = some ad → ¬ F ad.block) (hnk : nk ≤ 9223372036854775807) :
    Calls Try.prog 32 #[.pointer (some ⟨a, 0, none⟩), .slice AK nk ck] w fun e w' => e = .returned (.tuple #[]) ∧ Gone B w F a (p.boot keep) n w' :=
  (boot_any h.at_ h.ok (h.low hn) AK nk ck keep hk hkl hkn hnk).mono fun e w' ⟨he, hp, hm⟩ => ⟨he, h.next hB (hp.mono fun g _ hg => .inl hg) hm (h.ok.boot keep) (by rw [(PM.boot_low p keep).1]; omega) (by rw [(PM.boot_low p keep).2]; simp), hm⟩
theorem St.read (h : St B w F a p n) (hn : n ≤ 1000000000) (i k : Int) :
    Calls Try.prog 34 #[.pointer (some ⟨a, 0, none⟩), .int .i64 i, .int .i64 k] w fun e w' => ∃ A m cap, e = .returned (.tuple #[.slice A m cap, .int .i64 (p.read i k).2]) ∧ m = ((p.read i k).1.getD []).length ∧ Held w' F A ((p.read i k).1.getD []) ∧ Below w.heap.size w w' :=
  (read_any h.at_ h.ok (h.low hn) i k).mono fun e w' ⟨A, m, cap, he, ho, hb⟩ => ⟨A, m, cap, he, ho.len.symm, Held.of_own ho fun g hg => (h.lt g hg).2, hb⟩
theorem St.len (h : St B w F a p n) (hn : n ≤ 1000000000) (i : Int) :
    Calls Try.prog 33 #[.pointer (some ⟨a, 0, none⟩), .int .i64 i] w fun e w' => e = .returned (.tuple #[.int .i64 (p.len i).1, .int .i64 (p.len i).2]) ∧ Below w.heap.size w w' :=
  (len_any h.at_ h.ok (h.low hn) i).mono fun e w' ⟨he, k, hw⟩ => ⟨he, by rw [hw]; exact below_drewN (Below.refl _ _) k⟩
theorem St.new {o : PM} (h : PlantAt w' (New w w') a o) (hB : B ≤ w.heap.size) {zs1 zs2 : List Int} (hn : newM zs1 zs2 = some o) : St B w' (New w w') a o 0 := by
  obtain ⟨h1, _, h3, h4, _⟩ := newM_ok hn
  exact ⟨h, h1, fun g hg => ⟨Nat.le_trans hB hg.1, hg.2⟩, by rw [h3]; omega, by rw [h4]; simp⟩
end
end Go.Proofs.Ytomncfiklkhfjaa.Pl
/- 'munimentlaw03.shown' holds: the document's examples of plants. -/
namespace Go.Proofs.Ytomncfiklkhfjaa.Pl
open Go Go.RowKit Mem
def S0 : PM := { disks := [4], tapes := [2], devs := newDevs [4] [2], waits := [], off := false, fuse := none, steps := 0, now := 0 }
def S1 : PM := (S0.write 0 1 (fullB 1)).1
def S2 : PM := S1.boot []
def S3 : PM := (S2.append 1 (fullB 2)).1
def S4 : PM := S3.setFuse 0
def S5 : PM := (S4.flush 1).1
theorem s_new : newM [4] [2] = some S0 := by kernel_rfl
theorem s_w : (S0.write 0 1 (fullB 1)).2 = 0 := by kernel_rfl
theorem s_r1 : S1.read 0 1 = (some (fullB 1), 0) := by kernel_rfl
theorem s_r2 : S2.read 0 1 = (some (fullB 0), 0) := by kernel_rfl
theorem s_a : (S2.append 1 (fullB 2)).2 = (0, 0) := by kernel_rfl
theorem s_f : (S4.flush 1).2 = 2 := by kernel_rfl
theorem s_off : S5.off = true := by kernel_rfl
theorem s_steps : S5.steps = 2 := by kernel_rfl
theorem iat_new (w : World) (zs : List Int) (k : Nat) (hk : w.heap.size = k) (t : TypeId) : IAt (w.alloc (.cells (zs.map intV).toArray t)) (some ⟨k, 0, none⟩) zs := by
  subst hk
  refine .inr ⟨_, rfl, fun i z hz => ?_⟩
  have := (Blk.new w t (zs.map intV).toArray).cell i
  have e : (Addr.add ⟨w.heap.size, 0, none⟩ i) = ⟨w.heap.size, i, none⟩ := by
    unfold Addr.add
    split
    · rename_i h; subst h; rfl
    · simp
  rw [e, this]
  simp [hz, intV]
set_option maxRecDepth 100000 in
set_option maxHeartbeats 8000000 in
theorem shown_any (w : World) : Calls Try.prog 25 #[] w fun e w' => e = .returned (.bool true) ∧ Below w.heap.size w w' := by
  go_enter Try.func25, Try.ntmps25
  go_wp2_with fail
  have hn := new_any ((w.alloc (.cells #[.int .i64 4] 3)).alloc (.cells #[.int .i64 2] 3)) (some ⟨w.heap.size, 0, none⟩) (some ⟨w.heap.size + 1, 0, none⟩) 1 1 1 1 [4] [2] ((iat_new w [4] _ rfl _).below (below_al' _)) (iat_new _ [2] _ (by simp) _) rfl rfl (by omega) (by omega)
  rw [s_new] at hn
  refine hn.mono ?_
  clear hn
  rintro e w1 ⟨hb1, ⟨h, _⟩ | ⟨a, p, h, rfl, hp⟩⟩
  · cases h
  injection h with h
  subst h
  have hB0 : w.heap.size ≤ ((w.alloc (.cells #[.int .i64 4] 3)).alloc (.cells #[.int .i64 2] 3)).heap.size := by simp; omega
  have HW1 : Hid (Below w.heap.size w w1) := Lib.hid ((((Below.refl w.heap.size w).alloc (Nat.le_refl _) _).alloc (by simp) _).trans (hb1.mono hB0))
  obtain ⟨F, hs⟩ : ∃ F, St w.heap.size w1 F a S0 0 := ⟨_, St.new hp hB0 s_new⟩
  have HS1 := Lib.hid hs
  clear hb1 hp hB0 hs
  go_wp2_with fail
  have hf := full_any w1 1
  rw [show V8 1 = 1 from rfl] at hf
  refine hf.mono ?_
  clear hf
  rintro e w2 ⟨gRX, rfl, ho2, hb2⟩
  have RX2 := Lib.hid (Held.of_own ho2 fun g hg => (HS1.out.lt g hg).2)
  clear ho2
  have HW2 := Lib.hid (HW1.out.trans (hb2.mono HW1.out.size))
  have HS2 := Lib.hid (HS1.out.below hb2)
  clear HW1 HS1 
  clear hb2
  go_wp2_with fail
  have hc := HS2.out.write HW2.out.size (by omega) 0 1 (some ⟨gRX, 0, none⟩) 64 64 (fullB 1) RX2.out.1 (fullB_len 1)
  rw [s_w] at hc
  refine hc.mono ?_
  clear hc
  rintro e w3 ⟨rfl, hs3, hm3⟩
  have HW3 := Lib.hid (St.bel HS2.out HW2.out HW2.out.size hm3)
  have HS3 : Hid (St w.heap.size w3 _ a S1 1) := Lib.hid hs3
  have RX3 := Lib.hid (RX2.out.mods hm3)
  clear hs3 hm3 HW2 HS2 RX2
  clear RX3
  go_wp2_with fail
  have hc := HS3.out.read (by omega) 0 1
  rw [s_r1] at hc
  refine hc.mono ?_
  clear hc
  rintro e w4 ⟨ARA, mRA, cRA, rfl, hlRA, hh4, hb4⟩
  have RA4 : Hid (Held w4 _ ARA (fullB 1)) := Lib.hid hh4
  have LRA : Hid (mRA = ((fullB 1)).length) := Lib.hid hlRA
  clear hh4 hlRA
  have HW4 := Lib.hid (HW3.out.trans (hb4.mono HW3.out.size))
  have HS4 := Lib.hid (HS3.out.below hb4)
  clear HW3 HS3 
  clear hb4
  go_wp2_with fail
  have hc := HS4.out.boot HW4.out.size (by omega) none 0 0 [] (.inl rfl) rfl (fun _ ad h => by cases h) (by omega)
  refine hc.mono ?_
  clear hc
  rintro e w5 ⟨rfl, hs5, hm5⟩
  have HW5 := Lib.hid (St.bel HS4.out HW4.out HW4.out.size hm5)
  have HS5 : Hid (St w.heap.size w5 _ a S2 2) := Lib.hid hs5
  have RA5 := Lib.hid (RA4.out.mods hm5)
  clear hs5 hm5 HW4 HS4 RA4
  go_wp2_with fail
  have hc := HS5.out.read (by omega) 0 1
  rw [s_r2] at hc
  refine hc.mono ?_
  clear hc
  rintro e w6 ⟨ARB, mRB, cRB, rfl, hlRB, hh6, hb6⟩
  have RB6 : Hid (Held w6 _ ARB (fullB 0)) := Lib.hid hh6
  have LRB : Hid (mRB = ((fullB 0)).length) := Lib.hid hlRB
  clear hh6 hlRB
  have HW6 := Lib.hid (HW5.out.trans (hb6.mono HW5.out.size))
  have HS6 := Lib.hid (HS5.out.below hb6)
  have RA6 := Lib.hid (RA5.out.below hb6)
  clear HW5 HS5 RA5
  clear hb6
  go_wp2_with fail
  have hf := full_any w6 2
  rw [show V8 2 = 2 from rfl] at hf
  refine hf.mono ?_
  clear hf
  rintro e w7 ⟨gRY, rfl, ho7, hb7⟩
  have RY7 := Lib.hid (Held.of_own ho7 fun g hg => (HS6.out.lt g hg).2)
  clear ho7
  have HW7 := Lib.hid (HW6.out.trans (hb7.mono HW6.out.size))
  have HS7 := Lib.hid (HS6.out.below hb7)
  have RA7 := Lib.hid (RA6.out.below hb7)
  have RB7 := Lib.hid (RB6.out.below hb7)
  clear HW6 HS6 RA6 RB6
  clear hb7
  go_wp2_with fail
  have hc := HS7.out.append HW7.out.size (by omega) 1 (some ⟨gRY, 0, none⟩) 64 64 (fullB 2) RY7.out.1 (fullB_len 2)
  rw [s_a] at hc
  refine hc.mono ?_
  clear hc
  rintro e w8 ⟨rfl, hs8, hm8⟩
  have HW8 := Lib.hid (St.bel HS7.out HW7.out HW7.out.size hm8)
  have HS8 : Hid (St w.heap.size w8 _ a S3 3) := Lib.hid hs8
  have RA8 := Lib.hid (RA7.out.mods hm8)
  have RB8 := Lib.hid (RB7.out.mods hm8)
  have RY8 := Lib.hid (RY7.out.mods hm8)
  clear hs8 hm8 HW7 HS7 RA7 RB7 RY7
  clear RY8
  go_wp2_with fail
  have hc := HS8.out.setFuse HW8.out.size 0 (by omega)
  refine hc.mono ?_
  clear hc
  rintro e w9 ⟨rfl, hs9, hm9⟩
  have HW9 := Lib.hid (St.bel HS8.out HW8.out HW8.out.size hm9)
  have HS9 : Hid (St w.heap.size w9 _ a S4 4) := Lib.hid hs9
  have RA9 := Lib.hid (RA8.out.mods hm9)
  have RB9 := Lib.hid (RB8.out.mods hm9)
  clear hs9 hm9 HW8 HS8 RA8 RB8
  go_wp2_with fail
  have hc := HS9.out.flush HW9.out.size (by omega) 1
  rw [s_f] at hc
  refine hc.mono ?_
  clear hc
  rintro e w10 ⟨rfl, hs10, hm10⟩
  have HW10 := Lib.hid (St.bel HS9.out HW9.out HW9.out.size hm10)
  have HS10 : Hid (St w.heap.size w10 _ a S5 5) := Lib.hid hs10
  have RA10 := Lib.hid (RA9.out.mods hm10)
  have RB10 := Lib.hid (RB9.out.mods hm10)
  clear hs10 hm10 HW9 HS9 RA9 RB9
  go_wp2_with fail
  have hf := full_any w10 1
  rw [show V8 1 = 1 from rfl] at hf
  refine hf.mono ?_
  clear hf
  rintro e w11 ⟨gRZ, rfl, ho11, hb11⟩
  have RZ11 := Lib.hid (Held.of_own ho11 fun g hg => (HS10.out.lt g hg).2)
  clear ho11
  have HW11 := Lib.hid (HW10.out.trans (hb11.mono HW10.out.size))
  have HS11 := Lib.hid (HS10.out.below hb11)
  have RA11 := Lib.hid (RA10.out.below hb11)
  have RB11 := Lib.hid (RB10.out.below hb11)
  clear HW10 HS10 RA10 RB10
  clear hb11
  go_wp2_with fail
  have hc := same_any ARA (some ⟨gRZ, 0, none⟩) (fullB 1) (fullB 1) mRA 64 cRA 64 w11 LRA.out.symm (fullB_len 1) RA11.out.1 RZ11.out.1
  rw [show decide ((fullB 1) = (fullB 1)) = true by kernel_rfl] at hc
  refine hc.mono ?_
  clear hc
  rintro e _ ⟨rfl, rfl⟩
  go_wp2_with fail
  clear RZ11
  have hf := full_any w11 0
  rw [show V8 0 = 0 from rfl] at hf
  refine hf.mono ?_
  clear hf
  rintro e w12 ⟨gRU, rfl, ho12, hb12⟩
  have RU12 := Lib.hid (Held.of_own ho12 fun g hg => (HS11.out.lt g hg).2)
  clear ho12
  have HW12 := Lib.hid (HW11.out.trans (hb12.mono HW11.out.size))
  have HS12 := Lib.hid (HS11.out.below hb12)
  have RA12 := Lib.hid (RA11.out.below hb12)
  have RB12 := Lib.hid (RB11.out.below hb12)
  clear HW11 HS11 RA11 RB11
  clear hb12
  go_wp2_with fail
  have hc := same_any ARB (some ⟨gRU, 0, none⟩) (fullB 0) (fullB 0) mRB 64 cRB 64 w12 LRB.out.symm (fullB_len 0) RB12.out.1 RU12.out.1
  rw [show decide ((fullB 0) = (fullB 0)) = true by kernel_rfl] at hc
  refine hc.mono ?_
  clear hc
  rintro e _ ⟨rfl, rfl⟩
  go_wp2_with fail
  refine (on_any HS12.out.at_).mono ?_
  rw [s_off]
  rintro e _ ⟨rfl, rfl⟩
  go_wp2_with fail
  refine (steps_any HS12.out.at_).mono ?_
  rw [s_steps]
  rintro e _ ⟨rfl, rfl⟩
  go_wp2_with fail
  go_ret
  exact ⟨rfl, HW12.out⟩
end Go.Proofs.Ytomncfiklkhfjaa.Pl
