/- What the laws of the plant share: 'full', 'same', a plant within a law (St), rows held beside it (Held). -/
import Derived.Test.YtgcckfaljfkkhaaDoorFold5
import Derived.Test.YtgcckfaljfkkhaaDoorPlNew
import Derived.Test.YtgcckfaljfkkhaaDoorPlBoot
import Derived.WalkLawsBesides
import Derived.Stop.BytesEq
import Derived.Laws.BitsAllLaws
import Derived.Deep.QuietTactic
import Derived.BigQuiet
namespace Go.Proofs.YtgcckfaljfkkhaaDoor.Pl
open Go Go.RowKit Mem
theorem strTy : Tryd.prog.underlying 9 = some .string := Tryd.underlying9
/-- A sector of one byte. -/
def fullB (c : UInt8) : List UInt8 := List.replicate 64 c
theorem fullB_len (c : UInt8) : (fullB c).length = 64 := by simp [fullB]
theorem fullB_set (c : UInt8) (k : Nat) (h : k < 64) : (List.replicate k c ++ List.replicate (64 - k) (0 : UInt8)).set k c = List.replicate (k + 1) c ++ List.replicate (64 - (k + 1)) 0 := by
  refine List.ext_getElem? fun i => ?_
  rw [List.getElem?_set]
  simp only [List.length_append, List.length_replicate, List.getElem?_append, List.getElem?_replicate]
  rcases Nat.lt_trichotomy i k with h1 | h1 | h1
  · rw [if_neg (by omega), if_pos h1, if_pos h1, if_pos (by omega), if_pos (by omega)]
  · subst h1
    rw [if_pos rfl, if_pos (by omega), if_pos (by omega), if_pos (by omega)]
  · have e : (i - k < 64 - k) ↔ (i - (k + 1) < 64 - (k + 1)) := by omega
    have h2 : ¬ k = i := by omega
    have h3 : ¬ i < k := by omega
    have h4 : ¬ i < k + 1 := by omega
    simp only [h2, h3, h4, if_false, e]
/-- The call gives back a sector of its own. -/
def RetF (w : World) (b : List UInt8) (e : Ending) (w' : World) : Prop :=
  ∃ g, e = .returned (.slice (some ⟨g, 0, none⟩) 64 64) ∧ Own w' w.heap.size 5 (some ⟨g, 0, none⟩) 64 64 b ∧ Below w.heap.size w w'
def FullR (w : World) (c : UInt8) (iv : Value) (wr : World) : Prop :=
  ∃ k : Nat, k ≤ 64 ∧ iv = .int .i64 (k : Int) ∧ Below w.heap.size w wr ∧ Blk wr w.heap.size 5 (cellsOf (List.replicate k c ++ List.replicate (64 - k) 0))
/-- A plant within a law that began in a world of B blocks; so many calls have been made. -/
structure St (B : Nat) (w : World) (F : Nat → Prop) (a : Nat) (p : PM) (n : Nat) : Prop where
  at_ : PlantAt w F a p
  ok : p.Ok
  lt : ∀ g, F g → B ≤ g ∧ g < w.heap.size
  steps : p.steps ≤ n
  waits : p.waits.length ≤ n
/-- Bytes beside a plant. -/
def Held (w : World) (F : Nat → Prop) (A : Option Addr) (bs : List UInt8) : Prop := BAt w A bs ∧ ∀ ad, A = some ad → ¬ F ad.block ∧ ad.block < w.heap.size
section
variable {B : Nat} {w w' : World} {F G : Nat → Prop} {a c : Nat} {p q : PM} {n : Nat} {A : Option Addr} {bs : List UInt8}
theorem addr_block (ad : Addr) (k : Nat) : (ad.add k).block = ad.block := by unfold Addr.add; split <;> rfl
theorem Held.keep (h : Held w F A bs) (hk : ∀ ad, A = some ad → w'.heap[ad.block]? = w.heap[ad.block]?) (hs : w.heap.size ≤ w'.heap.size) (hG : ∀ ad, A = some ad → ¬ F ad.block → ad.block < w.heap.size → ¬ G ad.block) : Held w' G A bs :=
  ⟨h.1.keep fun ad k v hA _ hc => by
    have := hk ad hA
    simp only [World.cell?, addr_block] at hc ⊢
    rw [this]
    exact hc, fun ad hA => ⟨hG ad hA (h.2 ad hA).1 (h.2 ad hA).2, Nat.lt_of_lt_of_le (h.2 ad hA).2 hs⟩⟩
theorem Held.mods (h : Held w F A bs) (hm : Mods w.heap.size F w w') : Held w' (Grow F w w') A bs :=
  h.keep (fun ad hA => hm.keep _ (h.2 ad hA).2 (h.2 ad hA).1) hm.size fun ad _ hn hlt hg => by
    rcases hg with hg | hg
    · exact hn hg
    · omega
theorem Held.below (h : Held w F A bs) (hb : Below w.heap.size w w') : Held w' F A bs :=
  h.keep (fun ad hA => hb.block _ (h.2 ad hA).2) hb.size fun _ad _ hn _ => hn
theorem Held.of_own {base : Nat} {m k : Nat} (h : Own w base 5 A m k bs) (hF : ∀ g, F g → g < base) : Held w F A bs := ⟨h.bat, fun ad hA => by
  rcases h.form with ⟨h, _⟩ | ⟨g, h, h1, h2⟩
  · rw [h] at hA; cases hA
  · rw [h] at hA
    injection hA with hA
    subst hA
    exact ⟨fun hf => by have := hF g hf; omega, h2⟩⟩
theorem Held.nil_ (w : World) (F : Nat → Prop) : Held w F none [] := ⟨BAt.nil_ _ _, fun ad h => by cases h⟩
theorem St.low (h : St B w F a p n) (hn : n ≤ 1000000000) : p.Low := ⟨by have := h.steps; omega, by have := h.waits; omega⟩
theorem St.below (h : St B w F a p n) (hb : Below w.heap.size w w') : St B w' F a p n := ⟨h.at_.below hb, h.ok, fun g hg => ⟨(h.lt g hg).1, Nat.lt_of_lt_of_le (h.lt g hg).2 hb.size⟩, h.steps, h.waits⟩
theorem St.next (h : St B w F a p n) (hB : B ≤ w.heap.size) (hp : PlantAt w' (Grow F w w') a q) (hm : Mods w.heap.size F w w') (hok : q.Ok) (h1 : q.steps ≤ p.steps + 1) (h2 : q.waits.length ≤ p.waits.length + 1) : St B w' (Grow F w w') a q (n + 1) :=
  ⟨hp, hok, fun g hg => by
    rcases hg with hg | hg
    · exact ⟨(h.lt g hg).1, Nat.lt_of_lt_of_le (h.lt g hg).2 hm.size⟩
    · exact ⟨Nat.le_trans hB hg.1, hg.2⟩, by have := h.steps; omega, by have := h.waits; omega⟩
/-- What such a call leaves. -/
def Gone (B : Nat) (w : World) (F : Nat → Prop) (a : Nat) (q : PM) (n : Nat) (w' : World) : Prop := St B w' (Grow F w w') a q (n + 1) ∧ Mods w.heap.size F w w'
theorem St.bel {W : World} (h : St B w F a p n) (hW : Below B W w) (hB : B ≤ w.heap.size) (hm : Mods w.heap.size F w w') : Below B W w' :=
  hW.trans ((hm.mono hB fun _ _ hf => hf).below fun k hk hf => by have := (h.lt k hf).1; omega)
theorem St.write (h : St B w F a p n) (hB : B ≤ w.heap.size) (hn : n ≤ 1000000000) (i k : Int) (A : Option Addr) (m cap : Nat) (b : List UInt8) (hb : BAt w A b) (hl : b.length = m) :
    Calls Tryd.prog 36 #[.pointer (some ⟨a, 0, none⟩), .int .i64 i, .int .i64 k, .slice A m cap] w fun e w' => e = .returned (.int .i64 (p.write i k b).2) ∧ Gone B w F a (p.write i k b).1 n w' :=
  (write_any h.at_ h.ok (h.low hn) i k A m cap b hb hl).mono fun _e _w' ⟨he, hp, hm⟩ => ⟨he, h.next hB hp hm (h.ok.write i k b) (PM.write_low p i k b).1 (PM.write_low p i k b).2, hm⟩
theorem St.flush (h : St B w F a p n) (hB : B ≤ w.heap.size) (hn : n ≤ 1000000000) (i : Int) :
    Calls Tryd.prog 37 #[.pointer (some ⟨a, 0, none⟩), .int .i64 i] w fun e w' => e = .returned (.int .i64 (p.flush i).2) ∧ Gone B w F a (p.flush i).1 n w' :=
  (flush_any h.at_ h.ok (h.low hn) i).mono fun _e _w' ⟨he, hp, hm⟩ => ⟨he, h.next hB hp hm (h.ok.flush i) (PM.flush_low p i).1 (Nat.le_succ_of_le (PM.flush_low p i).2), hm⟩
theorem St.setFuse (h : St B w F a p n) (hB : B ≤ w.heap.size) (i : Int) (hi : i < 9223372036854775808) :
    Calls Tryd.prog 19 #[.pointer (some ⟨a, 0, none⟩), .int .i64 i] w fun e w' => e = .returned (.tuple #[]) ∧ Gone B w F a (p.setFuse i) n w' :=
  (fuse_any h.at_ i).mono fun e w' ⟨he, hp, hm⟩ => ⟨he, h.next hB hp hm (h.ok.setFuse hi) (by rw [(PM.setFuse_low p i).1]; omega) (by rw [(PM.setFuse_low p i).2]; omega), hm⟩
theorem St.boot (h : St B w F a p n) (hB : B ≤ w.heap.size) (hn : n ≤ 1000000000) (AK : Option Addr) (nk ck : Nat) (keep : List Int) (hk : IAt w AK keep) (hkl : keep.length = nk) (hkn : keep ≠ [] → ∀ ad, AK = some ad → ¬ F ad.block) (hnk : nk ≤ 9223372036854775807) :
    Calls Tryd.prog 21 #[.pointer (some ⟨a, 0, none⟩), .slice AK nk ck] w fun e w' => e = .returned (.tuple #[]) ∧ Gone B w F a (p.boot keep) n w' :=
  (boot_any h.at_ h.ok (h.low hn) AK nk ck keep hk hkl hkn hnk).mono fun e w' ⟨he, hp, hm⟩ => ⟨he, h.next hB (hp.mono fun g _ hg => .inl hg) hm (h.ok.boot keep) (by rw [(PM.boot_low p keep).1]; omega) (by rw [(PM.boot_low p keep).2]; simp), hm⟩
theorem St.read (h : St B w F a p n) (hn : n ≤ 1000000000) (i k : Int) :
    Calls Tryd.prog 47 #[.pointer (some ⟨a, 0, none⟩), .int .i64 i, .int .i64 k] w fun e w' => ∃ A m cap, e = .returned (.tuple #[.slice A m cap, .int .i64 (p.read i k).2]) ∧ m = ((p.read i k).1.getD []).length ∧ Held w' F A ((p.read i k).1.getD []) ∧ Below w.heap.size w w' :=
  (read_any h.at_ h.ok (h.low hn) i k).mono fun _e _w' ⟨A, m, cap, he, ho, hb⟩ => ⟨A, m, cap, he, ho.len.symm, Held.of_own ho fun g hg => (h.lt g hg).2, hb⟩
theorem St.new {o : PM} (h : PlantAt w' (New w w') a o) (hB : B ≤ w.heap.size) {zs1 zs2 : List Int} (hn : newM zs1 zs2 = some o) : St B w' (New w w') a o 0 := by
  obtain ⟨h1, _, h3, h4, _⟩ := newM_ok hn
  exact ⟨h, h1, fun g hg => ⟨Nat.le_trans hB hg.1, hg.2⟩, by rw [h3]; omega, by rw [h4]; simp⟩
end
end Go.Proofs.YtgcckfaljfkkhaaDoor.Pl
/- The hot disk in memory; its small functions: 'cost', 'mask', 'place', 'TrailingZeros16'. -/
namespace Go.Proofs.YtgcckfaljfkkhaaDoor.Hot
open Go Go.RowKit Mem Pl
def u16V (n : Nat) : Value := .int .u16 (n : Int)
def pcCells (dev : Nat) (x : Pc) : List Value := [.int .i64 (dev : Int), .int .i64 (x.1 : Int), .int .i64 (x.2 : Int), .bool false]
theorem u16Ty : ElTy Tryd.prog 71 81 1 2 (.int .u16 0) := ⟨Tryd.underlying71, by kernel_rfl, by kernel_rfl, by decide⟩
theorem placeTy : ElTy Tryd.prog 22 36 4 32 (.agg #[.int .i64 0, .int .i64 0, .int .i64 0, .bool false]) := ⟨Tryd.underlying22, by kernel_rfl, by kernel_rfl, by decide⟩
structure HotB (w : World) (H : Nat → Prop) (h a dev : Nat) (segs : List Nat) (used : List Pc) (S U : Value) : Prop where
  blk : Blk w h 73 #[.pointer (some ⟨a, 0, none⟩), .int .i64 (dev : Int), S, U]
  own : H h
  segs : Vec w H 81 1 S segs.length (segs.map u16V)
  used : Vec w H 36 4 U used.length (used.flatMap (pcCells dev))
def HotAt (w : World) (H : Nat → Prop) (h a dev : Nat) (segs : List Nat) (used : List Pc) : Prop := ∃ S U, HotB w H h a dev segs used S U
section
variable {w w' : World} {H G : Nat → Prop} {h a dev : Nat} {segs : List Nat} {used : List Pc} {S U : Value}
theorem HotB.c0 (x : HotB w H h a dev segs used S U) : w.cell? ⟨h, 0, none⟩ = some (.pointer (some ⟨a, 0, none⟩)) := (x.blk.cell 0).trans rfl
theorem HotB.c1 (x : HotB w H h a dev segs used S U) : w.cell? ⟨h, 1, none⟩ = some (.int .i64 (dev : Int)) := (x.blk.cell 1).trans rfl
theorem HotB.c2 (x : HotB w H h a dev segs used S U) : w.cell? ⟨h, 2, none⟩ = some S := (x.blk.cell 2).trans rfl
theorem HotB.c3 (x : HotB w H h a dev segs used S U) : w.cell? ⟨h, 3, none⟩ = some U := (x.blk.cell 3).trans rfl
theorem HotB.mods {B : Nat} (x : HotB w H h a dev segs used S U) (hm : Mods B G w w') (hn : ∀ g, g < w.heap.size → H g → g < B ∧ ¬ G g) : HotB w' H h a dev segs used S U :=
  ⟨x.blk.mods hm (hn h x.blk.lt x.own).1 (hn h x.blk.lt x.own).2, x.own, x.segs.mods hm hn, x.used.mods hm hn⟩
theorem HotB.mono (x : HotB w H h a dev segs used S U) (hF : ∀ g, g < w.heap.size → H g → G g) : HotB w G h a dev segs used S U :=
  ⟨x.blk, hF h x.blk.lt x.own, x.segs.mono hF, x.used.mono hF⟩
theorem HotB.below (x : HotB w H h a dev segs used S U) (hb : Below w.heap.size w w') : HotB w' H h a dev segs used S U :=
  x.mods (Mods.of_below (F := fun _ => False) hb) fun _g hg _ => ⟨hg, fun y => y⟩
theorem HotB.at_ (x : HotB w H h a dev segs used S U) : HotAt w H h a dev segs used := ⟨S, U, x⟩
theorem HotAt.mods {B : Nat} (x : HotAt w H h a dev segs used) (hm : Mods B G w w') (hn : ∀ g, g < w.heap.size → H g → g < B ∧ ¬ G g) : HotAt w' H h a dev segs used := by
  obtain ⟨S, U, x⟩ := x
  exact ⟨S, U, x.mods hm hn⟩
theorem HotAt.mono (x : HotAt w H h a dev segs used) (hF : ∀ g, g < w.heap.size → H g → G g) : HotAt w G h a dev segs used := by
  obtain ⟨S, U, x⟩ := x
  exact ⟨S, U, x.mono hF⟩
theorem HotAt.below (x : HotAt w H h a dev segs used) (hb : Below w.heap.size w w') : HotAt w' H h a dev segs used := by
  obtain ⟨S, U, x⟩ := x
  exact ⟨S, U, x.below hb⟩
/-- A segment's number lies there. -/
theorem HotB.seg (x : HotB w H h a dev segs used S U) {i s : Nat} (hs : segs[i]? = some s) : ∃ g c, S = .slice (some ⟨g, 0, none⟩) segs.length c ∧ w.cell? ⟨g, i, none⟩ = some (u16V s) ∧ H g ∧ w.frozen? ⟨g, i, none⟩ = false := by
  obtain ⟨g, c, cur, rfl, hf, hh, _⟩ := x.segs.form (by have := (List.getElem?_eq_some_iff.1 hs).1; omega)
  exact ⟨g, c, rfl, x.segs.at_ (by rw [List.getElem?_map, hs]; rfl), hf, by simp [World.frozen?, hh]⟩
end
def costM (n : Nat) : Nat := 1 + (n + 63) / 64
theorem cost_any (w : World) (n : Nat) (hn : n ≤ 9223372036854775000) : Calls Tryd.prog 34 #[.int .i64 (n : Int)] w fun e w' => e = .returned (.int .i64 (costM n : Int)) ∧ w = w' := by
  go_enter Tryd.func34, Tryd.ntmps34
  go_wp2_with fail
  go_ret
  refine ⟨?_, rfl⟩
  show Ending.returned (.int .i64 (1 + ((n : Int) + 64 - 1) / 64)) = _
  rw [show (1 + ((n : Int) + 64 - 1) / 64) = (costM n : Int) by unfold costM; omega]
/-- The table of the places of single bits. -/
def tzs : List Int := [0, 1, 28, 2, 29, 14, 24, 3, 30, 22, 20, 15, 25, 17, 4, 8, 31, 27, 13, 23, 21, 19, 16, 7, 26, 12, 18, 6, 11, 5, 10, 9]
def Tz (w : World) : Prop := ∀ i, i < 32 → w.cell? ⟨0, i, none⟩ = some (.int .u8 (tzs.getD i 0))
theorem Tz.below {w w' : World} {B : Nat} (h : Tz w) (hb : Below B w w') (hB : 0 < B) : Tz w' := fun i hi => (hb.cell (p := ⟨0, i, none⟩) hB).trans (h i hi)
theorem tz_at : ∀ j : Fin 16, 2 ^ j.val * 125613361 % 4294967296 / 134217728 < 32 ∧ tzs.getD (2 ^ j.val * 125613361 % 4294967296 / 134217728) 0 = (j.val : Int) := by decide +kernel
theorem neg_u16 {f : Nat} (h0 : f ≠ 0) (hf : f < 65536) : IntKind.u16.wrap (-(f : Int)) = ((65536 - f : Nat) : Int) := by
  rw [IntKind.wrap_u16]
  omega
theorem tz_idx {j : Nat} (hj : j < 16) : ∃ p q : Nat, 2 ^ j = p ∧ p < 65536 ∧ (p : Int) * 125613361 % 4294967296 / 134217728 = (q : Int) ∧ q < 32 ∧ tzs.getD q 0 = (j : Int) := by
  obtain ⟨hq, hqt⟩ := tz_at ⟨j, hj⟩
  exact ⟨_, _, rfl, Nat.pow_lt_pow_right (by decide) hj, by rw [Int.natCast_ediv, Int.natCast_emod, Int.natCast_mul]; rfl, hq, hqt⟩
theorem tz_any (w : World) (f j : Nat) (hf : f < 65536) (hl : LowB f j) (hj : j < 16) (ht : Tz w) : Calls Tryd.prog 51 #[.int .u16 (f : Int)] w fun e w' => e = .returned (.int .i64 (j : Int)) ∧ w = w' := by
  have h0 : f ≠ 0 := fun e => by have := hl.1; rw [e, Nat.zero_testBit] at this; cases this
  have hz : ((f : Int) == 0) = false := by rw [beq_eq_false_iff_ne]; omega
  have hb : bits .and .u16 (f : Int) (IntKind.u16.wrap (-(f : Int))) = ((2 ^ j : Nat) : Int) := by rw [neg_u16 h0 hf, u16_and_nat _ _ hf (by omega), low_and hl hf]
  obtain ⟨p, q, hp, hp2, h2, hq, hqt⟩ := tz_idx hj
  rw [hp] at hb
  have h1 : ((p : Int) % 4294967296) = p := by omega
  have h3 := ht _ hq
  rw [hqt] at h3
  have h4 : (q : Int) < 32 := by omega
  clear hl ht hqt hp hp2
  go_enter Tryd.func51, Tryd.ntmps51
  go_wp2_with fail
  go_ret
  exact ⟨rfl, rfl⟩
theorem mask_any (w : World) (d : Value) (b : Value) (x : Pc) (n : Nat) (hx : okP n x) : Calls Tryd.prog 40 #[.agg #[d, .int .i64 (x.1 : Int), .int .i64 (x.2 : Int), b]] w fun e w' => e = .returned (u16V (maskM x)) ∧ Below w.heap.size w w' := by
  have hm := mask_lt hx
  have e1 : IntKind.u16.wrap (IntKind.u16.wrap (IntKind.u16.wrap (2 ^ min x.2 16) - 1) * 2 ^ (x.1 % 16)) = (maskM x : Int) := by
    have h2 := hx.2.1
    have h1 : 2 ^ x.2 ≤ 2 ^ 16 := Nat.pow_le_pow_right (by decide) h2
    have h3 : 0 < 2 ^ x.2 := Nat.two_pow_pos _
    have h4 : (2 : Int) ^ min x.2 16 = ((2 ^ x.2 : Nat) : Int) := by rw [Nat.min_eq_left h2]; simp
    have h5 : IntKind.u16.wrap (IntKind.u16.wrap ((2 ^ x.2 : Nat) : Int) - 1) = ((2 ^ x.2 - 1 : Nat) : Int) := by rw [IntKind.wrap_u16, IntKind.wrap_u16]; omega
    rw [h4, h5, IntKind.wrap_u16]
    unfold maskM at hm ⊢
    have h6 : ((2 ^ x.2 - 1 : Nat) : Int) * 2 ^ (x.1 % 16) = (((2 ^ x.2 - 1) * 2 ^ (x.1 % 16) : Nat) : Int) := by simp
    rw [h6]
    omega
  go_enter Tryd.func40, Tryd.ntmps40
  go_wp2_with fail
  go_quiet (fail)
  go_wp2_with fail
  go_ret
  refine ⟨?_, below_drewN (below_al' _) _⟩
  show Ending.returned (.int .u16 (IntKind.u16.wrap (IntKind.u16.wrap (IntKind.u16.wrap (2 ^ min x.2 16) - 1) * 2 ^ (x.1 % 16)))) = _
  rw [e1]
  rfl
end Go.Proofs.YtgcckfaljfkkhaaDoor.Hot
