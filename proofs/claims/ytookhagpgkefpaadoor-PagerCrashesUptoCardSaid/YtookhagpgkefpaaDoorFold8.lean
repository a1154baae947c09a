/- What the laws of the plant share: 'full', 'same', a plant within a law (St), rows held beside it (Held). -/
import Derived.Test.YtookhagpgkefpaaDoorFold5
import Derived.Test.YtookhagpgkefpaaDoorPlNew
import Derived.Test.YtookhagpgkefpaaDoorPlBoot
import Derived.WalkLawsBesides
import Derived.Stop.BytesEq
import Derived.Test.YtookhagpgkefpaaDoorFold2
import Derived.BigQuiet
import Derived.Deep.QuietTactic
import Derived.Test.YtookhagpgkefpaaDoorRows
import Derived.WalkKit
import Derived.Lib.Hide
import Derived.Test.YtookhagpgkefpaaDoorFold0
import Derived.WalkSpells
import Derived.Deep.RegionHeld3
import Derived.Deep.DrawnRows
namespace Go.Proofs.YtookhagpgkefpaaDoor.Pl
open Go Go.RowKit Mem
theorem strTy : Tryd.prog.underlying 9 = some .string := Tryd.underlying9
/-- A sector of one byte. -/
def fullB (c : UInt8) : List UInt8 := List.replicate 64 c
theorem fullB_len (c : UInt8) : (fullB c).length = 64 := by simp [fullB]
theorem fullB_set (c : UInt8) (k : Nat) (h : k < 64) : (List.replicate k c ++ List.replicate (64 - k) (0 : UInt8)).set k c = List.replicate (k + 1) c ++ List.replicate (64 - (k + 1)) 0 := by
  refine List.ext_getElem? fun i => ?_
  rw [List.getElem?_set]
  simp only [List.length_append, List.length_replicate, List.getElem?_append, List.getElem?_replicate]
  rcases Nat.lt_trichotomy i k with h1 | h1 | h1
  · rw [if_neg (by omega), if_pos h1, if_pos h1, if_pos (by omega), if_pos (by omega)]
  · subst h1
    rw [if_pos rfl, if_pos (by omega), if_pos (by omega), if_pos (by omega)]
  · have e : (i - k < 64 - k) ↔ (i - (k + 1) < 64 - (k + 1)) := by omega
    have h2 : ¬ k = i := by omega
    have h3 : ¬ i < k := by omega
    have h4 : ¬ i < k + 1 := by omega
    simp only [h2, h3, h4, if_false, e]
/-- The call gives back a sector of its own. -/
def RetF (w : World) (b : List UInt8) (e : Ending) (w' : World) : Prop :=
  ∃ g, e = .returned (.slice (some ⟨g, 0, none⟩) 64 64) ∧ Own w' w.heap.size 5 (some ⟨g, 0, none⟩) 64 64 b ∧ Below w.heap.size w w'
def FullR (w : World) (c : UInt8) (iv : Value) (wr : World) : Prop :=
  ∃ k : Nat, k ≤ 64 ∧ iv = .int .i64 (k : Int) ∧ Below w.heap.size w wr ∧ Blk wr w.heap.size 5 (cellsOf (List.replicate k c ++ List.replicate (64 - k) 0))
/-- A plant within a law that began in a world of B blocks; so many calls have been made. -/
structure St (B : Nat) (w : World) (F : Nat → Prop) (a : Nat) (p : PM) (n : Nat) : Prop where
  at_ : PlantAt w F a p
  ok : p.Ok
  lt : ∀ g, F g → B ≤ g ∧ g < w.heap.size
  steps : p.steps ≤ n
  waits : p.waits.length ≤ n
/-- Bytes beside a plant. -/
def Held (w : World) (F : Nat → Prop) (A : Option Addr) (bs : List UInt8) : Prop := BAt w A bs ∧ ∀ ad, A = some ad → ¬ F ad.block ∧ ad.block < w.heap.size
section
variable {B : Nat} {w w' : World} {F G : Nat → Prop} {a c : Nat} {p q : PM} {n : Nat} {A : Option Addr} {bs : List UInt8}
theorem addr_block (ad : Addr) (k : Nat) : (ad.add k).block = ad.block := by unfold Addr.add; split <;> rfl
theorem Held.keep (h : Held w F A bs) (hk : ∀ ad, A = some ad → w'.heap[ad.block]? = w.heap[ad.block]?) (hs : w.heap.size ≤ w'.heap.size) (hG : ∀ ad, A = some ad → ¬ F ad.block → ad.block < w.heap.size → ¬ G ad.block) : Held w' G A bs :=
  ⟨h.1.keep fun ad k v hA _ hc => by
    have := hk ad hA
    simp only [World.cell?, addr_block] at hc ⊢
    rw [this]
    exact hc, fun ad hA => ⟨hG ad hA (h.2 ad hA).1 (h.2 ad hA).2, Nat.lt_of_lt_of_le (h.2 ad hA).2 hs⟩⟩
theorem Held.mods (h : Held w F A bs) (hm : Mods w.heap.size F w w') : Held w' (Grow F w w') A bs :=
  h.keep (fun ad hA => hm.keep _ (h.2 ad hA).2 (h.2 ad hA).1) hm.size fun ad _ hn hlt hg => by
    rcases hg with hg | hg
    · exact hn hg
    · omega
theorem Held.below (h : Held w F A bs) (hb : Below w.heap.size w w') : Held w' F A bs :=
  h.keep (fun ad hA => hb.block _ (h.2 ad hA).2) hb.size fun _ad _ hn _ => hn
theorem Held.of_own {base : Nat} {m k : Nat} (h : Own w base 5 A m k bs) (hF : ∀ g, F g → g < base) : Held w F A bs := ⟨h.bat, fun ad hA => by
  rcases h.form with ⟨h, _⟩ | ⟨g, h, h1, h2⟩
  · rw [h] at hA; cases hA
  · rw [h] at hA
    injection hA with hA
    subst hA
    exact ⟨fun hf => by have := hF g hf; omega, h2⟩⟩
theorem Held.nil_ (w : World) (F : Nat → Prop) : Held w F none [] := ⟨BAt.nil_ _ _, fun ad h => by cases h⟩
theorem St.low (h : St B w F a p n) (hn : n ≤ 1000000000) : p.Low := ⟨by have := h.steps; omega, by have := h.waits; omega⟩
theorem St.below (h : St B w F a p n) (hb : Below w.heap.size w w') : St B w' F a p n := ⟨h.at_.below hb, h.ok, fun g hg => ⟨(h.lt g hg).1, Nat.lt_of_lt_of_le (h.lt g hg).2 hb.size⟩, h.steps, h.waits⟩
theorem St.next (h : St B w F a p n) (hB : B ≤ w.heap.size) (hp : PlantAt w' (Grow F w w') a q) (hm : Mods w.heap.size F w w') (hok : q.Ok) (h1 : q.steps ≤ p.steps + 1) (h2 : q.waits.length ≤ p.waits.length + 1) : St B w' (Grow F w w') a q (n + 1) :=
  ⟨hp, hok, fun g hg => by
    rcases hg with hg | hg
    · exact ⟨(h.lt g hg).1, Nat.lt_of_lt_of_le (h.lt g hg).2 hm.size⟩
    · exact ⟨Nat.le_trans hB hg.1, hg.2⟩, by have := h.steps; omega, by have := h.waits; omega⟩
/-- What such a call leaves. -/
def Gone (B : Nat) (w : World) (F : Nat → Prop) (a : Nat) (q : PM) (n : Nat) (w' : World) : Prop := St B w' (Grow F w w') a q (n + 1) ∧ Mods w.heap.size F w w'
theorem St.bel {W : World} (h : St B w F a p n) (hW : Below B W w) (hB : B ≤ w.heap.size) (hm : Mods w.heap.size F w w') : Below B W w' :=
  hW.trans ((hm.mono hB fun _ _ hf => hf).below fun k hk hf => by have := (h.lt k hf).1; omega)
theorem St.write (h : St B w F a p n) (hB : B ≤ w.heap.size) (hn : n ≤ 1000000000) (i k : Int) (A : Option Addr) (m cap : Nat) (b : List UInt8) (hb : BAt w A b) (hl : b.length = m) :
    Calls Tryd.prog 41 #[.pointer (some ⟨a, 0, none⟩), .int .i64 i, .int .i64 k, .slice A m cap] w fun e w' => e = .returned (.int .i64 (p.write i k b).2) ∧ Gone B w F a (p.write i k b).1 n w' :=
  (write_any h.at_ h.ok (h.low hn) i k A m cap b hb hl).mono fun _e _w' ⟨he, hp, hm⟩ => ⟨he, h.next hB hp hm (h.ok.write i k b) (PM.write_low p i k b).1 (PM.write_low p i k b).2, hm⟩
theorem St.flush (h : St B w F a p n) (hB : B ≤ w.heap.size) (hn : n ≤ 1000000000) (i : Int) :
    Calls Tryd.prog 45 #[.pointer (some ⟨a, 0, none⟩), .int .i64 i] w fun e w' => e = .returned (.int .i64 (p.flush i).2) ∧ Gone B w F a (p.flush i).1 n w' :=
  (flush_any h.at_ h.ok (h.low hn) i).mono fun _e _w' ⟨he, hp, hm⟩ => ⟨he, h.next hB hp hm (h.ok.flush i) (PM.flush_low p i).1 (Nat.le_succ_of_le (PM.flush_low p i).2), hm⟩
theorem St.setFuse (h : St B w F a p n) (hB : B ≤ w.heap.size) (i : Int) (hi : i < 9223372036854775808) :
    Calls Tryd.prog 26 #[.pointer (some ⟨a, 0, none⟩), .int .i64 i] w fun e w' => e = .returned (.tuple #[]) ∧ Gone B w F a (p.setFuse i) n w' :=
  (fuse_any h.at_ i).mono fun e w' ⟨he, hp, hm⟩ => ⟨he, h.next hB hp hm (h.ok.setFuse hi) (by rw [(PM.setFuse_low p i).1]; omega) (by rw [(PM.setFuse_low p i).2]; omega), hm⟩
theorem St.boot (h : St B w F a p n) (hB : B ≤ w.heap.size) (hn : n ≤ 1000000000) (AK : Option Addr) (nk ck : Nat) (keep : List Int) (hk : IAt w AK keep) (hkl : keep.length = nk) (hkn : keep ≠ [] → ∀ ad, AK = some ad → ¬ F ad.block) (hnk : nk ≤ 9223372036854775807) :
    Calls Tryd.prog 27 #[.pointer (some ⟨a, 0, none⟩), .slice AK nk ck] w fun e w' => e = .returned (.tuple #[]) ∧ Gone B w F a (p.boot keep) n w' :=
  (boot_any h.at_ h.ok (h.low hn) AK nk ck keep hk hkl hkn hnk).mono fun e w' ⟨he, hp, hm⟩ => ⟨he, h.next hB (hp.mono fun g _ hg => .inl hg) hm (h.ok.boot keep) (by rw [(PM.boot_low p keep).1]; omega) (by rw [(PM.boot_low p keep).2]; simp), hm⟩
theorem St.read (h : St B w F a p n) (hn : n ≤ 1000000000) (i k : Int) :
    Calls Tryd.prog 50 #[.pointer (some ⟨a, 0, none⟩), .int .i64 i, .int .i64 k] w fun e w' => ∃ A m cap, e = .returned (.tuple #[.slice A m cap, .int .i64 (p.read i k).2]) ∧ m = ((p.read i k).1.getD []).length ∧ Held w' F A ((p.read i k).1.getD []) ∧ Below w.heap.size w w' :=
  (read_any h.at_ h.ok (h.low hn) i k).mono fun _e _w' ⟨A, m, cap, he, ho, hb⟩ => ⟨A, m, cap, he, ho.len.symm, Held.of_own ho fun g hg => (h.lt g hg).2, hb⟩
theorem St.new {o : PM} (h : PlantAt w' (New w w') a o) (hB : B ≤ w.heap.size) {zs1 zs2 : List Int} (hn : newM zs1 zs2 = some o) : St B w' (New w w') a o 0 := by
  obtain ⟨h1, _, h3, h4, _⟩ := newM_ok hn
  exact ⟨h, h1, fun g hg => ⟨Nat.le_trans hB hg.1, hg.2⟩, by rw [h3]; omega, by rw [h4]; simp⟩
end
end Go.Proofs.YtookhagpgkefpaaDoor.Pl
/- A drawn region walked by a tree of orders: where two operations that write may come up next, both are shown. -/
namespace Go.Proofs.YtookhagpgkefpaaDoor.Ord
open Go.RowKit Mem
section
variable {P : Program} {ops : Array Oper} {Q : Exit → Act → World → Prop} {md : Region.Mode} {L : List Nat}
theorem wpOp_of_list {i : Nat} {o : Oper} {K : Act → World → Prop} {a : Act} {w : World} (hi : ops[i]? = some o) (h : wpList P ops (NX (NP Q) K) [o] a w) : wpOp P ops (NP Q) i K a w := by
  unfold wpOp
  simp only [hi]
  unfold wpList at h
  split
  · rename_i hw
    rw [if_pos hw] at h
    rcases h with h | ⟨_, h⟩
    · exact .inl (wp_next (fun a' w' x => x) h)
    · obtain ⟨_, _, h⟩ := h
      exact (h : False).elim
  · rename_i hw
    rw [if_neg hw] at h
    exact h
/-- The rest of the region, so many operations, from here. -/
def TB (P : Program) (md : Region.Mode) (ops : Array Oper) (Q : Exit → Act → World → Prop) (L : List Nat) (k : Nat) (listed : Array Bool) (a : Act) (w : World) : Prop := Closed md ops listed → wpB P md ops (NP Q) L k listed a w
theorem tb_start {id : Nat} {a : Act} {w : World} (L : List Nat) (hm : P.follows .mixedOrders = true) (h : TB P .any ops Q L ops.size (Array.replicate ops.size false) a w.drew) : (Code.region id ops true).wp P Q a w :=
  Code.wp_mono NP.imp (wp_region_any hm (wpAny_of_wpB _ _ _ _ (h Closed.start)))
theorem tb_ords {k : Nat} {listed : Array Bool} {a : Act} {w : World} (order : List Nat) (hsel : Region.noSelect ops = true) (hlen : order.length = k) (hok : okOrd P md ops L [] order listed = true) (h : wpOrd P ops (NP Q) L [] order a w) : TB P md ops Q L k listed a w := fun hc => by
  have := wpB_of_ord hsel order listed a w hc hok h
  rw [List.append_nil, hlen] at this
  exact this
/-- May operations that only look or reckon be walked ahead, in this order? -/
def okPre (P : Program) (md : Region.Mode) (ops : Array Oper) (L : List Nat) : List Nat → Array Bool → Bool
  | [], _ => true
  | i :: r, listed => (match ops[i]? with
    | none => false
    | some o => match kindOf P o with
      | .blind => (Region.ready md ops listed).contains i && Region.free md ops listed i
      | .looks => (Region.ready md ops listed).contains i && Region.free md ops listed i && (List.range ops.size).all fun j => listed.getD j true || j == i || keepsB P ops L j || waitsT md ops ops.size j i
      | _ => false) && okPre P md ops L r (listed.setIfInBounds i true)
theorem tb_pre_ (hsel : Region.noSelect ops = true) (k : Nat) : ∀ (l : List Nat) (lops : List Oper) (listed : Array Bool) (a : Act) (w : World), l.map (ops[·]?) = lops.map some → okPre P md ops L l listed = true →
    wpList P ops (NX (NP Q) fun a' w' => TB P md ops Q L k (l.foldl (fun x i => x.setIfInBounds i true) listed) a' w') lops a w → TB P md ops Q L (k + l.length) listed a w
  | [], [], _, _, _, _, _, h => h
  | [], _ :: _, _, _, _, hl, _, _ => by cases hl
  | _ :: _, [], _, _, _, hl, _, _ => by cases hl
  | i :: r, o :: lops, listed, a, w, hl, hok, h => fun hcl => by
    have hsp := Region.noSelect_spec hsel
    simp only [List.map_cons, List.cons.injEq] at hl
    obtain ⟨ho, hl2⟩ := hl
    unfold okPre at hok
    rw [Bool.and_eq_true] at hok
    obtain ⟨h1, h2⟩ := hok
    rw [ho] at h1
    simp only at h1
    have hstep : wpOp P ops (NP Q) i (fun a' w' => TB P md ops Q L (k + r.length) (listed.setIfInBounds i true) a' w') a w := by
      unfold wpOp
      simp only [ho]
      unfold wpList at h
      split
      · rename_i hw
        rw [if_pos hw] at h
        rcases h with h | ⟨_, h⟩
        · exact .inl (wp_next (fun a' w' x => tb_pre_ hsel k r lops _ a' w' hl2 h2 x) h)
        · obtain ⟨_, _, h⟩ := h
          exact (h : False).elim
      · rename_i hw
        rw [if_neg hw] at h
        exact tb_pre_ hsel k r lops _ _ _ hl2 h2 h
    show wpB P md ops (NP Q) L (k + r.length + 1) listed a w
    split at h1
    · rename_i hk
      simp only [Bool.and_eq_true] at h1
      have hr : i ∈ Region.ready md ops listed := by simpa using h1.1
      obtain ⟨v, hy, hK⟩ := blind_first ho hk hstep
      exact wpB_first (fun _ => True) (fun _ _ _ _ => trivial) ho hsp (fun _ _ _ x => x) _ listed a w hcl (Region.free_spec ho h1.2) (.inl fun _ => trivial) hr hy trivial (hK (hcl.set hr))
    · rename_i hk
      simp only [Bool.and_eq_true] at h1
      have hr : i ∈ Region.ready md ops listed := by simpa using h1.1.1
      obtain ⟨v, hy, hK⟩ := looks_first ho hk hstep
      refine wpB_first (fun x => Below w.heap.size w x) (fun x y hx hxy => hx.trans (hxy.mono hx.size)) ho hsp (fun _ _ _ x => x) _ listed a w hcl (Region.free_spec ho h1.1.2) (.inr fun j hj hji hkj => ?_) hr hy (Below.refl _ _) (hK (hcl.set hr))
      have hlt : j < ops.size := by
        rcases Nat.lt_or_ge j listed.size with h' | h'
        · rw [hcl.size] at h'; exact h'
        · simp [Array.getElem?_eq_none h'] at hj
      have := List.all_eq_true.1 h1.2 j (List.mem_range.2 hlt)
      simp only [hj, hkj, Bool.false_or, Bool.or_eq_true, beq_iff_eq, hji, false_or, Bool.or_false] at this
      exact ⟨_, this⟩
    · cases h1
theorem tb_pre {k m : Nat} {listed : Array Bool} {a : Act} {w : World} (l : List Nat) (lops : List Oper) (hsel : Region.noSelect ops = true) (hk : m = k + l.length) (hl : l.map (ops[·]?) = lops.map some) (hok : okPre P md ops L l listed = true)
    (h : wpList P ops (NX (NP Q) fun a' w' => TB P md ops Q L k (l.foldl (fun x i => x.setIfInBounds i true) listed) a' w') lops a w) : TB P md ops Q L m listed a w := by
  subst hk
  exact tb_pre_ hsel k l lops listed a w hl hok h
/-- Two may come up next. -/
theorem tb_fork {i j k : Nat} {oi oj : Oper} {listed : Array Bool} {a : Act} {w : World} (hr : Region.ready md ops listed = [i, j]) (hi : ops[i]? = some oi) (hj : ops[j]? = some oj)
    (h1 : wpList P ops (NX (NP Q) fun a' w' => Below w.heap.size w w' ∧ TB P md ops Q L k (listed.setIfInBounds i true) a' w') [oi] a w)
    (h2 : wpList P ops (NX (NP Q) fun a' w' => Below w.heap.size w w' ∧ TB P md ops Q L k (listed.setIfInBounds j true) a' w') [oj] a w) : TB P md ops Q L (k + 1) listed a w := fun hcl =>
  ⟨fun h0 => absurd h0 (by rw [hr]; simp), fun m hm => by
    have hm' := hm
    rw [hr] at hm'
    simp only [List.mem_cons, List.not_mem_nil, or_false] at hm'
    rcases hm' with rfl | rfl
    · exact wpOp_mono (fun a' w' x => ⟨fun _ => x.1, x.2 (hcl.set hm)⟩) (wpOp_of_list hi h1)
    · exact wpOp_mono (fun a' w' x => ⟨fun _ => x.1, x.2 (hcl.set hm)⟩) (wpOp_of_list hj h2)⟩
theorem nx_tb {k : Nat} {listed : Array Bool} {a : Act} {w : World} (h : TB P md ops Q L k listed a w) : NX (NP Q) (fun a' w' => TB P md ops Q L k listed a' w') .normal a w := h
theorem nx_tb2 {k : Nat} {listed : Array Bool} {a : Act} {w0 w : World} (hb : Below w0.heap.size w0 w) (h : TB P md ops Q L k listed a w) : NX (NP Q) (fun a' w' => Below w0.heap.size w0 w' ∧ TB P md ops Q L k listed a' w') .normal a w := ⟨hb, h⟩
end
end Go.Proofs.YtookhagpgkefpaaDoor.Ord
/- A drawn region walked by a tree of orders: where a call that writes what no waiting operation reads may come up beside an allocation. -/
namespace Go.Proofs.YtookhagpgkefpaaDoor.Ord
open Go.RowKit Mem
section
variable {P : Program} {ops : Array Oper} {Q : Exit → Act → World → Prop} {md : Region.Mode} {L : List Nat}
/-- Two may come up next; the first is bound to nothing. -/
theorem tb_fork_free {i j k : Nat} {oi oj : Oper} {listed : Array Bool} {a : Act} {w : World} (hr : Region.ready md ops listed = [i, j]) (hi : ops[i]? = some oi) (hj : ops[j]? = some oj) (hki : keepsB P ops L i = false)
    (h1 : wpList P ops (NX (NP Q) fun a' w' => TB P md ops Q L k (listed.setIfInBounds i true) a' w') [oi] a w)
    (h2 : wpList P ops (NX (NP Q) fun a' w' => Below w.heap.size w w' ∧ TB P md ops Q L k (listed.setIfInBounds j true) a' w') [oj] a w) : TB P md ops Q L (k + 1) listed a w := fun hcl =>
  ⟨fun h0 => absurd h0 (by rw [hr]; simp), fun m hm => by
    have hm' := hm
    rw [hr] at hm'
    simp only [List.mem_cons, List.not_mem_nil, or_false] at hm'
    rcases hm' with rfl | rfl
    · exact wpOp_mono (fun a' w' x => ⟨fun h => (by rw [hki] at h; cases h), x (hcl.set hm)⟩) (wpOp_of_list hi h1)
    · exact wpOp_mono (fun a' w' x => ⟨fun _ => x.1, x.2 (hcl.set hm)⟩) (wpOp_of_list hj h2)⟩
end
end Go.Proofs.YtookhagpgkefpaaDoor.Ord
/- The pager in memory; its small functions: 'has', 'set', 'slot'. -/
namespace Go.Proofs.YtookhagpgkefpaaDoor.Pag
open Go Go.RowKit Mem Pl Disk Crc _root_.Go.Proofs.YtookhagpgkefpaaDoor.Frame
/-- A pager's own numbers: pages, generation, root, pages in use, pages committed. -/
structure PgM where
  pages : Nat
  gen : Nat
  root : Int
  use : List UInt8
  was : List UInt8
def pgCells (a dev : Nat) (m : PgM) : List Value := [.pointer (some ⟨a, 0, none⟩), .int .i64 (dev : Int), .int .i64 (m.pages : Int), .int .u64 (m.gen : Int), .int .i64 m.root] ++ (m.use.map B8 ++ m.was.map B8)
structure PgB (w : World) (g a dev : Nat) (m : PgM) : Prop where
  blk : Blk w g 82 (pgCells a dev m).toArray
  ul : m.use.length = 48
  wl : m.was.length = 48
/-- A row of 48 bytes at a place. -/
def RowAt (w : World) (g o : Nat) (use : List UInt8) : Prop := ∀ k, k < 48 → w.cell? ⟨g, o + k, none⟩ = some (.int .u8 (V8 (use.getD k 0)))
theorem and_tab : ∀ (b : Fin 256) (j : Fin 8), (bits .and .u8 ((b.val : Int) / 2 ^ j.val) 1 == 1) = b.val.testBit j.val := by decide +kernel
theorem has_bit (b : UInt8) {j : Nat} (hj : j < 8) : (bits .and .u8 (V8 b / 2 ^ j) 1 == 1) = b.toNat.testBit j := and_tab ⟨b.toNat, b.toNat_lt⟩ ⟨j, hj⟩
theorem clr_tab : ∀ (b : Fin 256) (j : Fin 8), bits .andNot .u8 (b.val : Int) (2 ^ j.val % 256) = ((b.val &&& (255 - 2 ^ j.val) : Nat) : Int) := by decide +kernel
theorem or_tab : ∀ (b : Fin 256) (j : Fin 8), bits .or .u8 ((b.val &&& (255 - 2 ^ j.val) : Nat) : Int) (2 ^ j.val % 256) = ((b.val &&& (255 - 2 ^ j.val) ||| 2 ^ j.val : Nat) : Int) := by decide +kernel
theorem clr_lt : ∀ (b : Fin 256) (j : Fin 8), b.val &&& (255 - 2 ^ j.val) < 256 ∧ b.val &&& (255 - 2 ^ j.val) ||| 2 ^ j.val < 256 := by decide +kernel
theorem V8_bitB (b : UInt8) {j : Nat} (hj : j < 8) (yes : Bool) : V8 (bitB b j yes) = ((if yes then b.toNat &&& (255 - 2 ^ j) ||| 2 ^ j else b.toNat &&& (255 - 2 ^ j) : Nat) : Int) := by
  obtain ⟨h1, h2⟩ := clr_lt ⟨b.toNat, b.toNat_lt⟩ ⟨j, hj⟩
  unfold V8 bitB
  rw [UInt8.toNat_ofNat', Nat.mod_eq_of_lt]
  split
  · exact h2
  · exact h1
theorem clr_bit (b : UInt8) {j : Nat} (hj : j < 8) : bits .andNot .u8 (V8 b) (2 ^ j % 256) = V8 (bitB b j false) := by
  rw [V8_bitB b hj]; exact clr_tab ⟨b.toNat, b.toNat_lt⟩ ⟨j, hj⟩
theorem or_bit (b : UInt8) {j : Nat} (hj : j < 8) : bits .or .u8 (V8 (bitB b j false)) (2 ^ j % 256) = V8 (bitB b j true) := by
  rw [V8_bitB b hj, V8_bitB b hj]; exact or_tab ⟨b.toNat, b.toNat_lt⟩ ⟨j, hj⟩
theorem has_any (w : World) (g o : Nat) (use : List UInt8) (hc : RowAt w g o use) (page : Nat) (hp : page < 384) :
    Calls Tryd.prog 37 #[.pointer (some ⟨g, o, none⟩), .int .i64 (page : Int)] w fun e w' => e = .returned (.bool (hasB use page)) ∧ w = w' := by
  obtain ⟨q, hq⟩ : ∃ q, page / 8 = q := ⟨_, rfl⟩
  obtain ⟨j, hj⟩ : ∃ j, page % 8 = j := ⟨_, rfl⟩
  have h1 := hc q (by omega)
  have h2 : (page : Int) / 8 = (q : Int) := by omega
  have h3 : (page : Int) % 8 = (j : Int) := by omega
  have h4 : (q : Int) < 48 := by omega
  clear hc hp
  go_enter Tryd.func37, Tryd.ntmps37
  go_wp2_with fail
  go_ret
  refine ⟨?_, rfl⟩
  subst hq hj
  rw [← List.getD_eq_getElem?_getD, has_bit _ (Nat.mod_lt _ (by omega))]
  rfl
theorem PgB.cell {w : World} {g a dev : Nat} {m : PgM} (x : PgB w g a dev m) (k : Nat) : w.cell? ⟨g, k, none⟩ = (pgCells a dev m)[k]? := by rw [x.blk.cell]; simp
theorem PgB.useAt {w : World} {g a dev : Nat} {m : PgM} (x : PgB w g a dev m) : RowAt w g 5 m.use := fun k hk => by
  have hu := x.ul
  rw [x.cell]
  unfold pgCells
  rw [List.getElem?_append_right (by simp), List.getElem?_append_left (by simp; omega)]
  simp [List.getD_eq_getElem?_getD, B8, List.getElem?_eq_getElem (show k < m.use.length by omega)]
theorem PgB.wasAt {w : World} {g a dev : Nat} {m : PgM} (x : PgB w g a dev m) : RowAt w g 53 m.was := fun k hk => by
  have hu := x.ul
  have hw := x.wl
  rw [x.cell]
  unfold pgCells
  rw [List.getElem?_append_right (by simp; omega), List.getElem?_append_right (by simp; omega)]
  simp [List.getD_eq_getElem?_getD, B8, hu, show 53 + k - 5 - 48 = k by omega, List.getElem?_eq_getElem (show k < m.was.length by omega)]
theorem PgB.setUse {w : World} {g a dev : Nat} {m : PgM} (x : PgB w g a dev m) {k : Nat} (hk : k < 48) (b : UInt8) : PgB (w.setCell ⟨g, 5 + k, none⟩ (.int .u8 (V8 b))) g a dev { m with use := m.use.set k b } := by
  refine ⟨?_, by show (m.use.set k b).length = 48; rw [List.length_set]; exact x.ul, x.wl⟩
  have := x.blk.set_ (5 + k) (.int .u8 (V8 b))
  have e : (pgCells a dev m).toArray.setIfInBounds (5 + k) (.int .u8 (V8 b)) = (pgCells a dev { m with use := m.use.set k b }).toArray := by
    rw [List.setIfInBounds_toArray]
    congr 1
    unfold pgCells
    rw [List.set_append_right _ _ (by simp), List.set_append_left _ _ (by simp [x.ul]; omega)]
    simp [List.map_set, B8]
  rw [e] at this
  exact this
theorem PgB.drew {w : World} {g a dev : Nat} {m : PgM} (x : PgB w g a dev m) : PgB w.drew g a dev m := ⟨x.blk, x.ul, x.wl⟩
set_option maxHeartbeats 2000000 in
theorem set_any {w : World} {g a dev : Nat} {m : PgM} (x : PgB w g a dev m) (page : Nat) (hp : page < 384) (yes : Bool) :
    Calls Tryd.prog 42 #[.pointer (some ⟨g, 5, none⟩), .int .i64 (page : Int), .bool yes] w fun e w' => e = .returned (.tuple #[]) ∧ PgB w' g a dev { m with use := setB m.use page yes } ∧ Mods w.heap.size (fun k => k = g) w w' := by
  obtain ⟨q, hq⟩ : ∃ q, page / 8 = q := ⟨_, rfl⟩
  obtain ⟨j, hj⟩ : ∃ j, page % 8 = j := ⟨_, rfl⟩
  obtain ⟨b, hb⟩ : ∃ b, m.use.getD q 0 = b := ⟨_, rfl⟩
  have h1 := x.useAt q (by omega)
  rw [hb] at h1
  have h2 : (page : Int) / 8 = (q : Int) := by omega
  have h3 : (page : Int) % 8 = (j : Int) := by omega
  have h4 : (q : Int) < 48 := by omega
  have hj8 : j < 8 := by omega
  have hw1 : IntKind.i64.wrap (q : Int) = (q : Int) := IntWalk.i64_in _ (by omega)
  have hfz := x.blk.frozen (5 + q)
  have hv1 := clr_bit b hj8
  have hv2 := or_bit b hj8
  have HX1 : Hid (PgB (w.setCell ⟨g, 5 + q, none⟩ (.int .u8 (V8 (bitB b j false)))) g a dev { m with use := m.use.set q (bitB b j false) }) := Lib.hid (x.setUse (by omega) _)
  have HM1 : Hid (Mods w.heap.size (fun k => k = g) w (w.setCell ⟨g, 5 + q, none⟩ (.int .u8 (V8 (bitB b j false))))) := Lib.hid ((Mods.refl w.heap.size (fun k => k = g) w).setCell (.inl rfl) _)
  have HL := Lib.hid x.ul
  clear x
  go_enter Tryd.func42, Tryd.ntmps42
  go_wp2_with fail
  refine Ord.region_ordM [] [2, 7, 8, 9] [0, 1, 3, 6, 10, 2, 7, 8, 4, 5, 9, 11, 12] (by kernel_rfl) (by kernel_rfl) (by kernel_rfl) (by kernel_rfl) (Ord.ord_run [0, 1, 3, 6, 10] [_, _, _, _, _] rfl (by kernel_rfl) ?_)
  go_wp2_with fail
  refine Ord.nx_ord (Ord.ord_pure (.int .i64 (q : Int)) rfl (by kernel_rfl) rfl (fun w' => by first | (go_simp; done) | (go_simp; exact hw1)) ?_)
  simp only [Act.put, List.setIfInBounds_toArray]
  refine Ord.ord_pure (.int .i64 (j : Int)) rfl (by kernel_rfl) rfl (fun w' => by first | (go_simp; done) | (go_simp; exact h3)) ?_
  simp only [Act.put]
  refine Ord.ord_pure (.int .u8 (2 ^ j % 256)) rfl (by kernel_rfl) rfl (fun w' => by first | (go_simp; done) | (go_simp; exact IntKind.wrap_u8 _)) ?_
  simp only [Act.put]
  refine Ord.ord_run [4, 5] [_, _] rfl (by kernel_rfl) ?_
  go_wp2_with fail
  refine Ord.nx_ord (Ord.ord_pure (.int .u8 (V8 (bitB b j false))) rfl (by kernel_rfl) rfl (fun w' => by first | (go_simp; done) | (go_simp; exact hv1)) ?_)
  simp only [Act.put]
  refine Ord.ord_all [_, _] rfl (by kernel_rfl) ?_
  go_wp2_with fail
  refine Ord.nx_end ?_
  clear h1 hfz
  generalize w.setCell ⟨g, 5 + q, none⟩ (.int .u8 (V8 (bitB b j false))) = w1 at *
  cases yes with
  | false =>
    go_wp2_with fail
    go_end0
    refine ⟨rfl, ?_, HM1.out.drew⟩
    have := HX1.out.drew
    unfold setB
    rw [hq, hj, hb]
    exact this
  | true =>
    have h1 := HX1.out.useAt q (by omega)
    have e : (({ m with use := m.use.set q (bitB b j false) } : PgM).use.getD q 0) = bitB b j false := by
      show (m.use.set q (bitB b j false)).getD q 0 = _
      rw [List.getD_eq_getElem?_getD, List.getElem?_set_self (by rw [HL.out]; omega)]
      rfl
    rw [e] at h1
    have hfz := HX1.out.blk.frozen (5 + q)
    have HX2 := Lib.hid (HX1.out.setUse (show q < 48 by omega) (bitB b j true))
    have HM2 : Hid (Mods w.heap.size (fun k => k = g) w (w1.setCell ⟨g, 5 + q, none⟩ (.int .u8 (V8 (bitB b j true))))) := Lib.hid ((HM1.out).setCell (.inl rfl) _)
    clear HX1 HM1 e
    go_wp2_with fail
    refine Ord.region_ordM [] [2, 7, 8, 9] [0, 1, 3, 6, 10, 2, 7, 8, 4, 5, 9, 11, 12] (by kernel_rfl) (by kernel_rfl) (by kernel_rfl) (by kernel_rfl) (Ord.ord_run [0, 1, 3, 6, 10] [_, _, _, _, _] rfl (by kernel_rfl) ?_)
    go_wp2_with fail
    refine Ord.nx_ord (Ord.ord_pure (.int .i64 (q : Int)) rfl (by kernel_rfl) rfl (fun w' => by first | (go_simp; done) | (go_simp; exact hw1)) ?_)
    simp only [Act.put, List.setIfInBounds_toArray]
    refine Ord.ord_pure (.int .i64 (j : Int)) rfl (by kernel_rfl) rfl (fun w' => by first | (go_simp; done) | (go_simp; exact h3)) ?_
    simp only [Act.put]
    refine Ord.ord_pure (.int .u8 (2 ^ j % 256)) rfl (by kernel_rfl) rfl (fun w' => by first | (go_simp; done) | (go_simp; exact IntKind.wrap_u8 _)) ?_
    simp only [Act.put]
    refine Ord.ord_run [4, 5] [_, _] rfl (by kernel_rfl) ?_
    go_wp2_with fail
    refine Ord.nx_ord (Ord.ord_pure (.int .u8 (V8 (bitB b j true))) rfl (by kernel_rfl) rfl (fun w' => by first | (go_simp; done) | (go_simp; exact hv2)) ?_)
    simp only [Act.put]
    refine Ord.ord_all [_, _] rfl (by kernel_rfl) ?_
    go_wp2_with fail
    refine Ord.nx_end ?_
    go_wp2_with fail
    go_end0
    refine ⟨rfl, ?_, HM2.out.drew.drew⟩
    have := HX2.out.drew.drew
    unfold setB
    rw [hq, hj, hb]
    simp only [List.set_set] at this
    exact this
section
variable {w w' : World} {g a dev : Nat} {m : PgM}
theorem PgB.lt (x : PgB w g a dev m) : g < w.heap.size := x.blk.lt
theorem PgB.mods {B : Nat} {G : Nat → Prop} (x : PgB w g a dev m) (hm : Mods B G w w') (hB : g < B) (hn : ¬ G g) : PgB w' g a dev m := ⟨x.blk.mods hm hB hn, x.ul, x.wl⟩
theorem PgB.below (x : PgB w g a dev m) (hb : Below w.heap.size w w') : PgB w' g a dev m := ⟨x.blk.below_ hb, x.ul, x.wl⟩
theorem PgB.c0 (x : PgB w g a dev m) : w.cell? ⟨g, 0, none⟩ = some (.pointer (some ⟨a, 0, none⟩)) := (x.cell 0).trans rfl
theorem PgB.c1 (x : PgB w g a dev m) : w.cell? ⟨g, 1, none⟩ = some (.int .i64 (dev : Int)) := (x.cell 1).trans rfl
theorem PgB.c2 (x : PgB w g a dev m) : w.cell? ⟨g, 2, none⟩ = some (.int .i64 (m.pages : Int)) := (x.cell 2).trans rfl
theorem PgB.c3 (x : PgB w g a dev m) : w.cell? ⟨g, 3, none⟩ = some (.int .u64 (m.gen : Int)) := (x.cell 3).trans rfl
theorem PgB.c4 (x : PgB w g a dev m) : w.cell? ⟨g, 4, none⟩ = some (.int .i64 m.root) := (x.cell 4).trans rfl
/-- Where the superblock of a generation stands. -/
def slotM (gen : Nat) : Nat := (gen + 1) % 2
theorem slot_any (w : World) (gen : Nat) (hg : gen + 1 < 18446744073709551616) : Calls Tryd.prog 35 #[.int .u64 (gen : Int)] w fun e w' => e = .returned (.int .i64 (slotM gen : Int)) ∧ w = w' := by
  obtain ⟨q, hq⟩ : ∃ q, slotM gen = q := ⟨_, rfl⟩
  have h1 : IntKind.u64.wrap ((gen : Int) + 1) = (gen : Int) + 1 := by rw [IntKind.wrap_u64]; omega
  have h2 : ((gen : Int) + 1) % 2 = (q : Int) := by rw [← hq]; unfold slotM; omega
  have h3 : (q : Int) < 2 := by omega
  rw [hq]
  go_enter Tryd.func35, Tryd.ntmps35
  go_wp2_with fail
  go_ret
  exact ⟨rfl, rfl⟩
/-- May that page be put? -/
def PgM.free (m : PgM) (page : Nat) : Bool := !hasB m.use page && !hasB m.was page
theorem free_any (x : PgB w g a dev m) (page : Nat) (hp : page < 384) : Calls Tryd.prog 38 #[.pointer (some ⟨g, 0, none⟩), .int .i64 (page : Int)] w fun e w' => e = .returned (.bool (m.free page)) ∧ w = w' := by
  have h1 := has_any w g 5 m.use x.useAt page hp
  have h2 := has_any w g 53 m.was x.wasAt page hp
  unfold PgM.free
  cases hu : hasB m.use page <;> cases hw : hasB m.was page <;> rw [hu] at h1 <;> rw [hw] at h2 <;> clear hu hw x hp
  all_goals have H1 := Lib.hid h1
  all_goals have H2 := Lib.hid h2
  all_goals clear h1 h2
  all_goals go_enter Tryd.func38, Tryd.ntmps38
  all_goals go_wp2_with fail
  all_goals refine H1.out.mono ?_
  all_goals rintro e _ ⟨rfl, rfl⟩
  all_goals go_wp2_with fail
  · refine H2.out.mono ?_
    rintro e _ ⟨rfl, rfl⟩
    go_wp2_with fail
    go_ret
    exact ⟨rfl, rfl⟩
  · refine H2.out.mono ?_
    rintro e _ ⟨rfl, rfl⟩
    go_wp2_with fail
    go_ret
    exact ⟨rfl, rfl⟩
  · go_ret
    exact ⟨rfl, rfl⟩
  · go_ret
    exact ⟨rfl, rfl⟩
/-- Is that page in use? -/
def PgM.inUse (m : PgM) (page : Int) : Bool := decide (0 ≤ page) && decide (page < (m.pages : Int)) && hasB m.use page.toNat
theorem inUse_any (x : PgB w g a dev m) (h384 : m.pages ≤ 384) (page : Int) : Calls Tryd.prog 43 #[.pointer (some ⟨g, 0, none⟩), .int .i64 page] w fun e w' => e = .returned (.bool (m.inUse page)) ∧ w = w' := by
  have c2 := x.c2
  by_cases h0 : 0 ≤ page
  · obtain ⟨k, rfl⟩ := Int.eq_ofNat_of_zero_le h0
    by_cases hk : (k : Int) < (m.pages : Int)
    · have hge : (0 : Int) ≤ (k : Int) := by omega
      have h1 := has_any w g 5 m.use x.useAt k (by omega)
      have H1 := Lib.hid h1
      have HE : Hid (m.inUse (k : Int) = hasB m.use k) := Lib.hid (by unfold PgM.inUse; simp; omega)
      clear h1 x h0
      go_enter Tryd.func43, Tryd.ntmps43
      go_wp2_with fail
      refine H1.out.mono ?_
      rintro e _ ⟨rfl, rfl⟩
      go_wp2_with fail
      go_ret
      exact ⟨by rw [HE.out]; rfl, rfl⟩
    · have hge : (0 : Int) ≤ (k : Int) := by omega
      have HE : Hid (m.inUse (k : Int) = false) := Lib.hid (by unfold PgM.inUse; simp; omega)
      clear x h0
      go_enter Tryd.func43, Tryd.ntmps43
      go_wp2_with fail
      go_ret
      exact ⟨by rw [HE.out]; rfl, rfl⟩
  · have HE : Hid (m.inUse page = false) := Lib.hid (by unfold PgM.inUse; simp; omega)
    clear x
    go_enter Tryd.func43, Tryd.ntmps43
    go_wp2_with fail
    go_ret
    exact ⟨by rw [HE.out]; rfl, rfl⟩
theorem root_any (x : PgB w g a dev m) : Calls Tryd.prog 23 #[.pointer (some ⟨g, 0, none⟩)] w fun e w' => e = .returned (.int .i64 m.root) ∧ w = w' := by
  have c4 := x.c4
  go_enter Tryd.func23, Tryd.ntmps23
  go_wp2_with fail
  go_ret
  exact ⟨rfl, rfl⟩
/-- How many pages may be put. -/
def PgM.room (m : PgM) (n : Nat) : Nat := (List.range n).countP m.free
theorem room_next (m : PgM) (n : Nat) : m.room (n + 1) = m.room n + if m.free n then 1 else 0 := by
  unfold PgM.room
  rw [List.range_succ, List.countP_append, List.countP_singleton]
theorem room_le (m : PgM) (n : Nat) : m.room n ≤ n := by
  have := List.countP_le_length (p := m.free) (l := List.range n)
  rw [List.length_range] at this
  exact this
def RoomR (m : PgM) (w : World) (nv iv : Value) (wr : World) : Prop := ∃ i : Nat, i ≤ m.pages ∧ iv = .int .i64 (i : Int) ∧ nv = .int .i64 (m.room i : Int) ∧ wr = w
theorem room_any (x : PgB w g a dev m) (h384 : m.pages ≤ 384) : Calls Tryd.prog 24 #[.pointer (some ⟨g, 0, none⟩)] w fun e w' => e = .returned (.int .i64 (m.room m.pages : Int)) ∧ w = w' := by
  have c2 := x.c2
  have HX := Lib.hid x
  clear x
  go_enter Tryd.func24, Tryd.ntmps24
  go_wp2_with fail
  go_loopw [3, 9] (fun nv iv wr => RoomR m w nv iv wr) (fun _ iv _ => m.pages - (intOf iv).toNat)
  case atStart => exact ⟨0, by omega, rfl, rfl, rfl⟩
  case round =>
    obtain ⟨i, hi, rfl, rfl, rfl⟩ := hrel
    by_cases hlt : i < m.pages
    · have hiI : (i : Int) < (m.pages : Int) := by omega
      have hle := room_le m i
      have HN := Lib.hid (room_next m i)
      have hF := free_any HX.out i (by omega)
      cases hf : m.free i with
      | false =>
        rw [hf] at hF
        have HF := Lib.hid hF
        have HFV := Lib.hid hf
        clear hF hf
        go_wp2_with fail
        refine HF.out.mono ?_
        rintro e _ ⟨rfl, rfl⟩
        go_wp2_with fail
        go_roundw
        case rel => exact ⟨i + 1, by omega, by simp, by rw [HN.out, HFV.out]; simp, rfl⟩
        case measure => simp [intOf]; omega
      | true =>
        rw [hf] at hF
        have HF := Lib.hid hF
        have HFV := Lib.hid hf
        clear hF hf
        go_wp2_with fail
        refine HF.out.mono ?_
        rintro e _ ⟨rfl, rfl⟩
        go_wp2_with fail
        go_roundw
        case rel => exact ⟨i + 1, by omega, by simp, by rw [HN.out, HFV.out]; simp, rfl⟩
        case measure => simp [intOf]; omega
    · obtain rfl : m.pages = i := by omega
      have hiI : ¬ (m.pages : Int) < (m.pages : Int) := by omega
      go_wp2_with fail
      go_ret
      exact ⟨rfl, rfl⟩
end
end Go.Proofs.YtookhagpgkefpaaDoor.Pag
/- The walks of package crc and of its reference: each function once, over any bytes that are read in memory. -/
namespace Go.Proofs.YtookhagpgkefpaaDoor.Crc
open Go.RowKit Mem
/-- The table of sums lies where it was laid. -/
def Tab (w : World) : Prop := ∀ i, i < 16 → w.cell? ⟨0, i, none⟩ = some (.int .u32 (U (nib i)))
theorem Tab.below {w w' : World} {B : Nat} (h : Tab w) (hb : Below B w w') (hB : 0 < B) : Tab w' := fun i hi => (hb.cell (p := ⟨0, i, none⟩) hB).trans (h i hi)
theorem Tab.same {w w' : World} (h : Tab w) (hw : ∀ o, w'.cell? ⟨0, o, none⟩ = w.cell? ⟨0, o, none⟩) : Tab w' := fun i hi => (hw i).trans (h i hi)

section
attribute [local go_sem] xor_z8 and_15 xor_shr4 not_bv
set_option maxHeartbeats 400000 in
theorem more_walk (s : BitVec 32) (A : Option Addr) (bs : List UInt8) (cap : Nat) (w : World) (hl : bs.length ≤ 9223372036854775807) (hb : BAt w A bs) (ht : Tab w) :
    Calls Tryd.prog 56 #[.int .u32 (U s), .slice A bs.length cap] w fun e w' => e = .returned (.int .u32 (U (~~~ (bs.foldl byteT (~~~ s))))) ∧ w = w' := by
  have HB := Lib.hid hb
  have HT := Lib.hid ht
  clear hb ht
  go_enter Tryd.func56, Tryd.ntmps56
  go_wp2
  go_loop [5, 12] (fun r i => ∃ k : Nat, k ≤ bs.length ∧ i = .int .i64 k ∧ r = .int .u32 (U ((bs.take k).foldl byteT (~~~ s)))) (fun _ i => bs.length - (intOf i).toNat)
  case atStart => exact ⟨0, Nat.zero_le _, rfl, rfl⟩
  case round =>
    obtain ⟨k, hk, rfl, rfl⟩ := hrel
    by_cases hlt : k < bs.length
    · have hs : (bs.take (k + 1)).foldl byteT (~~~ s) = half (half ((bs.take k).foldl byteT (~~~ s) ^^^ z8 bs[k])) := by
        rw [List.take_succ_eq_append_getElem hlt, List.foldl_append]; rfl
      generalize hr : (bs.take k).foldl byteT (~~~ s) = r at *
      have H := Lib.hid hs
      clear hs hr
      obtain ⟨ad, rfl, hc⟩ := HB.out (by omega)
      have hcell : w.cell? (ad.add k) = some (.int .u8 (V8 (bs.getD k 0))) := hc k hlt
      have l1 := lo4_lt (r ^^^ z8 bs[k])
      have h1 := HT.out (lo4 (r ^^^ z8 bs[k])) l1
      have l2 := lo4_lt (half (r ^^^ z8 bs[k]))
      have h2 := HT.out (lo4 (half (r ^^^ z8 bs[k]))) l2
      clear hc
      unfold half at l2 h2
      simp only [show ∀ x : BitVec 32, x.toNat % 16 = lo4 x from fun _ => rfl] at l2 h2
      go_wp2
      go_round
      case rel => exact ⟨k + 1, hlt, by go_num, by rw [H.out]; rfl⟩
      case measure => simp [intOf]; omega
    · obtain rfl : k = bs.length := by omega
      clear HB HT
      go_wp2
      go_ret
      exact ⟨rfl, rfl⟩
end
/-- 'crc.More'. -/
theorem more_any (s : BitVec 32) (A : Option Addr) (bs : List UInt8) (n cap : Nat) (w : World) (hn : bs.length = n) (hl : n ≤ 9223372036854775807) (hb : BAt w A bs) (ht : Tab w) :
    Calls Tryd.prog 56 #[.int .u32 (U s), .slice A n cap] w fun e w' => e = .returned (.int .u32 (U (more s bs))) ∧ w = w' := by
  subst hn
  refine (more_walk s A bs cap w hl hb ht).mono ?_
  rintro e w' ⟨rfl, rfl⟩
  rw [foldl_byteT]
  exact ⟨rfl, rfl⟩
/-- 'crc.Sum'. -/
theorem sum_any (A : Option Addr) (bs : List UInt8) (n cap : Nat) (w : World) (hn : bs.length = n) (hl : n ≤ 9223372036854775807) (hb : BAt w A bs) (ht : Tab w) :
    Calls Tryd.prog 40 #[.slice A n cap] w fun e w' => e = .returned (.int .u32 (U (more 0#32 bs))) ∧ w = w' := by
  have h := more_any 0#32 A bs n cap w hn hl hb ht
  rw [show U 0#32 = 0 from rfl] at h
  have HC := Lib.hid h
  clear h hn hb ht
  go_enter Tryd.func40, Tryd.ntmps40
  go_wp2_with (go_at_call 56; refine (HC.out).mono ?_; rintro e w' ⟨rfl, rfl⟩)
  go_ret
  exact ⟨rfl, rfl⟩
theorem sum_q (A : Option Addr) (bs : List UInt8) (n cap : Nat) (w : World) (hn : bs.length = n) (hl : n ≤ 9223372036854775807) (hb : BAt w A bs) (ht : Tab w) (N : Nat) :
    Calls Tryd.prog 40 #[.slice A n cap] (w.drewN N) fun e w' => e = .returned (.int .u32 (U (more 0#32 bs))) ∧ w' = w.drewN N :=
  (sum_any A bs n cap (w.drewN N) hn hl hb ht).mono fun _ _ h => ⟨h.1, h.2.symm⟩

/-! ### The reference -/
section
attribute [local go_sem] xor_z8 not_bv
end
end Go.Proofs.YtookhagpgkefpaaDoor.Crc
/- The walks of package frame: each function once, over any bytes that are read in memory. -/
namespace Go.Proofs.YtookhagpgkefpaaDoor.Frame
open Go.RowKit Mem Crc
theorem byteTy : ByteTy Tryd.prog 38 5 := ⟨Tryd.underlying38, Tryd.underlying5, by kernel_rfl⟩
/-- The call gives back bytes of its own, and nothing that was there has changed. -/
def RetB (w : World) (bs : List UInt8) (e : Ending) (w' : World) : Prop :=
  ∃ A N c, e = .returned (.slice A N c) ∧ Own w' w.heap.size 5 A N c bs ∧ Below w.heap.size w w'

set_option maxHeartbeats 400000 in
/-- 'slices.Clone' of bytes. -/
theorem clone_any (A : Option Addr) (bs : List UInt8) (n cap : Nat) (w : World) (hn : bs.length = n) (hl : n ≤ 140737488355328) (hb : BAt w A bs) :
    Calls Tryd.prog 55 #[.slice A n cap] w (RetB w bs) := by
  have HB := Lib.hid hb
  have HN := Lib.hid hn
  clear hb hn
  cases A with
  | none =>
    have he : ∀ W, (binOp .eql 38 (.slice none n cap) (.slice none 0 0)).run Tryd.prog W = .ok (.bool true) W := fun W => Lib.run_eql_slice_nil W 38 5 none n cap 0 0 Tryd.underlying38
    go_enter Tryd.func55, Tryd.ntmps55
    go_wp2_with fail
    go_ret
    have hbs : bs = [] := by
      rcases Nat.eq_zero_or_pos bs.length with h0 | h0
      · exact List.eq_nil_of_length_eq_zero h0
      · obtain ⟨ad, h, _⟩ := HB.out h0
        cases h
    subst hbs
    exact ⟨_, _, _, rfl, Own.nil_ _ _ _, Below.refl _ _⟩
  | some ad =>
    have he : ∀ W, (binOp .eql 38 (.slice (some ad) n cap) (.slice none 0 0)).run Tryd.prog W = .ok (.bool false) W := fun W => Lib.run_eql_slice_nil W 38 5 (some ad) n cap 0 0 Tryd.underlying38
    go_enter Tryd.func55, Tryd.ntmps55
    go_wp2_with
      (at_builtin
       refine wpList_append_bytes rfl (.tmp 5) (.tmp 6) _ rfl w.heap.size _ byteTy _ 0 0 [] rfl (Own.new w _ _ rfl (Nat.le_refl _) (by rfl) rfl (by decide)) _ n cap bs rfl
         (HB.out.below ((Below.refl _ _).alloc (Nat.le_refl _) _)) HN.out n (Nat.zero_add n) (by omega) (by simp) ?_
       intro A2 c2 w5 ho2 hg2 hb2 hA2
       have HO2 := Lib.hid ho2
       have HBW2 := Lib.hid (((Below.refl w.heap.size w).alloc (Nat.le_refl _) _).trans hb2)
       clear ho2 hg2 hb2 hA2)
    go_ret
    exact ⟨_, _, _, rfl, by simpa using HO2.out, HBW2.out⟩
attribute [local go_sem] or_be
set_option maxHeartbeats 400000 in
/-- 'high': the number of up to eight bytes. -/
theorem high_any (A : Option Addr) (bs : List UInt8) (n cap : Nat) (w : World) (hn : bs.length = n) (hl : n ≤ 8) (hb : BAt w A bs) :
    Calls Tryd.prog 62 #[.slice A n cap] w fun e w' => e = .returned (.tuple #[.int .u64 (be bs : Nat), .int .i64 n]) ∧ w = w' := by
  have HB := Lib.hid hb
  have HN := Lib.hid hn
  clear hb hn
  go_enter Tryd.func62, Tryd.ntmps62
  go_wp2
  go_loop [4, 9] (fun r i => ∃ k : Nat, k ≤ n ∧ i = .int .i64 k ∧ r = .int .u64 (be (bs.take k) : Nat)) (fun _ i => n - (intOf i).toNat)
  case atStart => exact ⟨0, Nat.zero_le _, rfl, rfl⟩
  case round =>
    obtain ⟨k, hk, rfl, rfl⟩ := hrel
    by_cases hlt : k < n
    · have hkl : k < bs.length := by have := HN.out; omega
      have hs : be (bs.take (k + 1)) = be (bs.take k) * 256 + bs[k].toNat := by rw [List.take_succ_eq_append_getElem hkl, be_snoc]
      have hlt1 := be_lt (bs.take k)
      rw [List.length_take_of_le (by omega)] at hlt1
      have h7 : 256 ^ k ≤ 256 ^ 7 := Nat.pow_le_pow_right (by decide) (by omega)
      generalize hr : be (bs.take k) = r at *
      have H := Lib.hid hs
      clear hs hr
      obtain ⟨ad, rfl, hc⟩ := HB.out (by omega)
      have hcell : w.cell? (ad.add k) = some (.int .u8 (V8 bs[k])) := by have := hc k hkl; simpa [List.getD, hkl] using this
      clear hc
      have hr7 : r < 72057594037927936 := by omega
      clear h7 hlt1
      have hv := V8_lt bs[k]
      go_wp2
      go_round
      case rel => exact ⟨k + 1, hlt, by go_num, by rw [H.out]; simp⟩
      case measure => simp [intOf]; omega
    · obtain rfl : k = n := by omega
      have hz : be (bs.take k) = be bs := by rw [List.take_of_length_le (by have := HN.out; omega)]
      clear HB
      rw [hz]
      go_wp2
      go_ret2
      exact ⟨rfl, rfl⟩
/-- The array that Number fills, after k rounds. -/
def RowRel (w : World) (g n : Nat) (i : Value) (wr : World) : Prop :=
  ∃ (k : Nat) (row : List UInt8), k ≤ 8 ∧ i = .int .i64 k ∧ row.length = 8 ∧ Blk wr g 106 (cellsOf row) ∧ Below g w wr ∧ g < wr.heap.size ∧ ∀ j, j < k → row.getD j 0 = (beB n 8).getD j 0
set_option maxHeartbeats 400000 in
/-- 'Number', of a size that is none. -/
theorem number_no (A : Option Addr) (bs : List UInt8) (m cap : Nat) (n : Nat) (size : Int) (w : World) (hm : bs.length = m) (hl : m ≤ 140737488355328) (hb : BAt w A bs) (hsz : ¬ (1 ≤ size ∧ size ≤ 8)) :
    Calls Tryd.prog 39 #[.slice A m cap, .int .u64 n, .int .i64 size] w (RetB w bs) := by
  have HC := Lib.hid (clone_any A bs m cap w hm hl hb)
  clear hb hm
  have hcase : size < 1 ∨ ¬ size < 1 ∧ 8 < size := by omega
  clear hsz
  rcases hcase with h1 | ⟨h1, h2⟩
  all_goals
    go_enter Tryd.func39, Tryd.ntmps39
    go_wp2_with fail
    refine HC.out.mono ?_
    rintro e w1 ⟨A1, N1, c1, rfl, ho, hbw⟩
    have HO := Lib.hid ho
    have HBW := Lib.hid hbw
    clear ho hbw HC
    go_wp2_with fail
    go_ret
    exact ⟨_, _, _, rfl, HO.out, HBW.out⟩
set_option maxHeartbeats 400000 in
/-- 'Number', of 1 to 8 bytes. -/
theorem number_yes (A : Option Addr) (bs : List UInt8) (m cap : Nat) (n : Nat) (size : Nat) (w : World) (hm : bs.length = m) (hl : m ≤ 140737488355320) (hb : BAt w A bs) (h1 : 1 ≤ size) (h8 : size ≤ 8) (_hn : n < 18446744073709551616) :
    Calls Tryd.prog 39 #[.slice A m cap, .int .u64 n, .int .i64 size] w (RetB w (bs ++ beB n size)) := by
  have HC := Lib.hid (clone_any A bs m cap w hm (by omega) hb)
  have HM := Lib.hid hm
  clear hb hm
  go_enter Tryd.func39, Tryd.ntmps39
  go_wp2_with fail
  refine HC.out.mono ?_
  rintro e w1 ⟨A1, N1, c1, rfl, ho, hbw⟩
  obtain rfl : N1 = m := by rw [← ho.len]; exact HM.out
  have HO := Lib.hid ho
  have HBW := Lib.hid hbw
  have hsz := hbw.size
  clear ho hbw HC
  go_wp2_with fail
  go_loopw [19] (fun i wr => RowRel w1 w1.heap.size n i wr) (fun i _ => 8 - (intOf i).toNat)
  case atStart => exact ⟨0, List.replicate 8 0, by omega, rfl, rfl, Blk.new w1 _ _, (Below.refl _ _).alloc (Nat.le_refl _) _, by simp, fun j hj => absurd hj (by omega)⟩
  case round =>
    obtain ⟨k, row, hk, rfl, hrl, hG, hW, hlt', hj⟩ := hrel
    have HG := Lib.hid hG
    have HW := Lib.hid hW
    have HJ := Lib.hid hj
    have HR := Lib.hid hrl
    clear hG hW hj hrl
    by_cases hlt : k < 8
    · have h4 := HG.out.byte (k := k) (by have := HR.out; omega)
      have h5 := HG.out.frozen k
      go_wp2
      go_roundw
      case rel =>
        rw [shr_byte n k hlt]
        refine ⟨k + 1, row.set k (UInt8.ofNat (n / 256 ^ (7 - k))), hlt, by go_num, by simpa using HR.out, HG.out.setByte k _, HW.out.setCell (Nat.le_refl _) _, by simpa [World.setCell] using hlt', fun j hj => ?_⟩
        rcases Nat.lt_or_ge j k with h | h
        · have := HJ.out j h
          simp [List.getD, Nat.ne_of_gt h] at this ⊢
          exact this
        · obtain rfl : j = k := by omega
          have := beB_get n 8 j hlt
          rw [this]
          have hr := HR.out
          simp [List.getD, hr, hlt]
      case measure => simp [intOf]; omega
    · obtain rfl : k = 8 := by omega
      have hrow : row = beB n 8 := by
        have h8 := HR.out
        apply List.ext_getElem (by rw [h8, beB_length])
        intro j h1 h2
        have := HJ.out j (by omega)
        simpa [List.getD, h1, h2] using this
      subst hrow
      have HT := Lib.hid ((HG.out.bat).drop (8 - size))
      have hd : (beB n 8).drop (8 - size) = beB n size := by
        have := beB_drop n (8 - size) size
        rwa [show 8 - size + size = 8 by omega] at this
      rw [hd, add_off, Nat.zero_add] at HT
      have HO' := Lib.hid (HO.out.below HW.out)
      have HBW' := Lib.hid (HBW.out.trans (HW.out.mono hsz))
      clear HG HW HJ HR hd HO HBW
      have hcut := fun W => run_cutArray (P := Tryd.prog) 106 5 8 Tryd.underlying106 byteTy.hi w1.heap.size 0 .i64 (8 - (size : Int)) (8 - size) (by omega) (by omega) W
      rw [Nat.zero_add, show 8 - (8 - size) = size by omega] at hcut
      go_wp2_with
        (at_builtin
         refine wpList_append_bytes rfl (.tmp 31) (.tmp 34) _ rfl w.heap.size _ byteTy _ _ _ bs rfl HO'.out _ size _ (beB n size) rfl
           HT.out (beB_length _ _) (N1 + size) rfl (by omega) HBW'.out.size ?_
         intro A2 c2 w5 ho2 hg2 hb2 hA2
         have HO2 := Lib.hid ho2
         have HBW2 := Lib.hid (HBW'.out.trans hb2)
         clear ho2 hg2 hb2 hA2)
      go_ret
      exact ⟨_, _, _, rfl, HO2.out, HBW2.out⟩
/-- Number, all sizes. -/
theorem number_any (A : Option Addr) (bs : List UInt8) (m cap : Nat) (n : Nat) (size : Int) (w : World) (hm : bs.length = m) (hl : m ≤ 140737488355320) (hb : BAt w A bs) (hn : n < 18446744073709551616) :
    Calls Tryd.prog 39 #[.slice A m cap, .int .u64 n, .int .i64 size] w (RetB w (number bs n size)) := by
  unfold number okSize
  by_cases h : 1 ≤ size ∧ size ≤ 8
  · rw [if_pos (by simpa using h)]
    obtain ⟨s, rfl⟩ := Int.eq_ofNat_of_zero_le (show 0 ≤ size by omega)
    rw [Int.toNat_natCast]
    exact number_yes A bs m cap n s w hm hl hb (by omega) (by omega) hn
  · rw [if_neg (by simpa using h)]
    exact number_no A bs m cap n size w hm (by omega) hb h
/-- What Take gives back. -/
def RetT (w : World) (r : Nat × List UInt8 × Int) (e : Ending) (w' : World) : Prop :=
  ∃ A N c, e = .returned (.tuple #[.int .u64 (r.1 : Nat), .slice A N c, .int .i64 r.2.2]) ∧ Own w' w.heap.size 5 A N c r.2.1 ∧ Below w.heap.size w w'
set_option maxHeartbeats 400000 in
theorem take_no (A : Option Addr) (m cap : Nat) (size : Int) (w : World) (hsz : ¬ (1 ≤ size ∧ size ≤ 8)) :
    Calls Tryd.prog 51 #[.slice A m cap, .int .i64 size] w (RetT w (0, [], 1)) := by
  have hcase : size < 1 ∨ ¬ size < 1 ∧ 8 < size := by omega
  clear hsz
  rcases hcase with h1 | ⟨h1, h2⟩
  all_goals
    go_enter Tryd.func51, Tryd.ntmps51
    go_wp2
    go_ret3
    exact ⟨_, _, _, rfl, Own.nil_ _ _ _, Below.refl _ _⟩
set_option maxHeartbeats 400000 in
theorem take_short (A : Option Addr) (m cap : Nat) (size : Int) (w : World) (h1 : 1 ≤ size) (h8 : size ≤ 8) (hm : (m : Int) < size) :
    Calls Tryd.prog 51 #[.slice A m cap, .int .i64 size] w (RetT w (0, [], 40)) := by
  go_enter Tryd.func51, Tryd.ntmps51
  go_wp2
  go_ret3
  exact ⟨_, _, _, rfl, Own.nil_ _ _ _, Below.refl _ _⟩
set_option maxHeartbeats 400000 in
theorem take_yes (A : Option Addr) (bs : List UInt8) (m cap : Nat) (size : Nat) (w : World) (hl : bs.length = m) (hcap : m ≤ cap) (hmax : m ≤ 140737488355328) (hb : BAt w A bs) (h1 : 1 ≤ size) (h8 : size ≤ 8) (hm : size ≤ m) :
    Calls Tryd.prog 51 #[.slice A m cap, .int .i64 size] w (RetT w (be (bs.take size), bs.drop size, 0)) := by
  have hc1 := fun W => run_cut_h (P := Tryd.prog) 38 5 byteTy A m cap .i64 (size : Int) size rfl (by omega) W
  have hc2 := fun W => run_cut_l (P := Tryd.prog) 38 5 byteTy A m cap .i64 (size : Int) size rfl hm W
  have HC := Lib.hid (high_any A (bs.take size) size cap w (by simp; omega) h8 (hb.take size))
  have HB := Lib.hid hb
  have HL := Lib.hid hl
  have hlt : ¬ (m : Int) < (size : Int) := by omega
  clear hb hl
  go_enter Tryd.func51, Tryd.ntmps51
  go_wp2_with fail
  refine HC.out.mono ?_
  rintro e w1 ⟨rfl, rfl⟩
  clear HC
  have hsub : (m : Int) - (size : Int) = ((m - size : Nat) : Int) := by omega
  have hcn : cutA A cap size = none → cap - size = 0 := by
    intro h
    obtain ⟨ad, rfl, _⟩ := HB.out (by have := HL.out; omega)
    unfold cutA at h
    split at h
    · cases h
    · cases h
  have hdl : (bs.drop size).length = m - size := by have := HL.out; simp; omega
  have HN := Lib.hid hcn
  have HD := Lib.hid hdl
  clear hcn hdl
  go_wp2_with (first
    | (refine wpList_make_bytes rfl (.tmp 29) (.tmp 29) _ _ rfl byteTy _ _ (m - size) rfl rfl (by omega) ?_
       intro w2 hb2 hw2 hz2
       have HG2 := Lib.hid hb2
       have HBW2 := Lib.hid hw2
       have HB2 := Lib.hid ((HB.out.below hw2).cut cap size (by have := HL.out; omega))
       clear hb2 hw2)
    | (refine wpList_copy_bytes rfl (.tmp 31) (.tmp 34) _ rfl _ byteTy w.heap.size 0 (m - size) (m - size) _ _ rfl HG2.out (cutA A cap size) (m - size) (cap - size) (bs.drop size) rfl HB2.out HD.out (m - size) (Nat.min_self _).symm (by simp) HN.out ?_
       intro w3 hb3 hg3 hz3
       have HG3 := Lib.hid hb3
       have HBW3 := Lib.hid ((HBW2.out).grown hg3 (Nat.le_of_lt hz2) (by simp))
       clear hb3 hg3 hz3))
  go_ret3
  have e1 : List.take 0 (List.replicate (m - size) (0 : UInt8)) ++ (bs.drop size).take (m - size) ++ List.drop (0 + (m - size)) (List.replicate (m - size) 0) = bs.drop size := by
    have := HD.out
    rw [Nat.zero_add, List.take_zero, List.nil_append, List.take_of_length_le (Nat.le_of_eq this), List.drop_eq_nil_of_le (Nat.le_of_eq List.length_replicate), List.append_nil]
  have hg := HG3.out
  rw [e1] at hg
  exact ⟨_, _, _, rfl, Own.of_blk hg (Nat.le_refl _) HD.out (by unfold maxLen; omega), HBW3.out⟩
theorem take_any (A : Option Addr) (bs : List UInt8) (m cap : Nat) (size : Int) (w : World) (hl : bs.length = m) (hcap : m ≤ cap) (hmax : m ≤ 140737488355328) (hb : BAt w A bs) :
    Calls Tryd.prog 51 #[.slice A m cap, .int .i64 size] w (RetT w (takeM bs size)) := by
  unfold takeM okSize
  by_cases h : 1 ≤ size ∧ size ≤ 8
  · rw [if_pos (by simpa using h)]
    by_cases hs : (bs.length : Int) < size
    · rw [if_pos hs]
      exact take_short A m cap size w h.1 h.2 (by omega)
    · rw [if_neg hs]
      obtain ⟨s, rfl⟩ := Int.eq_ofNat_of_zero_le (show 0 ≤ size by omega)
      rw [Int.toNat_natCast]
      exact take_yes A bs m cap s w hl hcap hmax hb (by omega) (by omega) (by omega)
  · rw [if_neg (by simpa using h)]
    exact take_no A m cap size w h
/-- What Unpack gives back. -/
def RetU (w : World) (r : Option (UInt8 × List UInt8 × List UInt8)) (e : Ending) (w' : World) : Prop :=
  (r = none ∧ e = .returned (.tuple #[.int .u8 0, .slice none 0 0, .slice none 0 0, .int .i64 40]) ∧ Below w.heap.size w w') ∨
  ∃ k p q A N c A' N' c', r = some (k, p, q) ∧ e = .returned (.tuple #[.int .u8 (V8 k), .slice A N c, .slice A' N' c', .int .i64 0]) ∧
    Own w' w.heap.size 5 A N c p ∧ Own w' w.heap.size 5 A' N' c' q ∧ Below w.heap.size w w' ∧ (A = none ∨ A.map (·.block) ≠ A'.map (·.block))
theorem RetU.some_ {w w' : World} {k : UInt8} {p q : List UInt8} {e : Ending} (h : RetU w (some (k, p, q)) e w') :
    ∃ A N c A' N' c', e = .returned (.tuple #[.int .u8 (V8 k), .slice A N c, .slice A' N' c', .int .i64 0]) ∧ Own w' w.heap.size 5 A N c p ∧ Own w' w.heap.size 5 A' N' c' q ∧ Below w.heap.size w w' ∧ (A = none ∨ A.map (·.block) ≠ A'.map (·.block)) := by
  rcases h with ⟨h, _⟩ | ⟨k', p', q', A, N, c, A', N', c', h, rest⟩
  · cases h
  · injection h with h
    injection h with h1 h2
    injection h2 with h2 h3
    subst h1 h2 h3
    exact ⟨A, N, c, A', N', c', rest⟩
theorem RetU.none_ {w w' : World} {e : Ending} (h : RetU w none e w') : e = .returned (.tuple #[.int .u8 0, .slice none 0 0, .slice none 0 0, .int .i64 40]) ∧ Below w.heap.size w w' := by
  rcases h with ⟨_, h⟩ | ⟨k', p', q', A, N, c, A', N', c', h, _⟩
  · exact h
  · cases h
theorem results_tmp4 {fn : Func} {t u v x : Tmp} (h : fn.results = #[.tmp t, .tmp u, .tmp v, .tmp x]) (tmps : Array Value) (P : Program) (w : World) :
    (results fn tmps).run P w = .ok (.tuple #[tmps.getD t undef, tmps.getD u undef, tmps.getD v undef, tmps.getD x undef]) w := by simp [results, h]
attribute [local go_sem ↓] Go.wp_at_zero Go.wp_at_succ
end Go.Proofs.YtookhagpgkefpaaDoor.Frame
/- The pager on its disk: 'pagesOf', 'super'. -/
namespace Go.Proofs.YtookhagpgkefpaaDoor.Pag
open Go Go.RowKit Mem Pl Disk Crc _root_.Go.Proofs.YtookhagpgkefpaaDoor.Frame
/-- How many pages a disk has. -/
def pagesM (disks : List Nat) (dev : Int) : Nat := if 0 ≤ dev ∧ dev < (disks.length : Int) then min ((disks.getD dev.toNat 0 - 2) / 8) 384 else 0
set_option maxHeartbeats 2000000 in
theorem pagesOf_any {w : World} {F : Nat → Prop} {a : Nat} {pm : PM} (hp : PlantAt w F a pm) (hok : pm.Ok) (dev : Int) :
    Calls Tryd.prog 32 #[.pointer (some ⟨a, 0, none⟩), .int .i64 dev] w fun e w' => e = .returned (.int .i64 (pagesM pm.disks dev : Int)) ∧ Below w.heap.size w w' := by
  have HSH := Lib.hid (shape_any hp hok)
  have HOK := Lib.hid hok
  have hd12 : pm.disks.length ≤ 12 := by have := hok.shape; have := hok.n12; omega
  by_cases hlo : dev < 0
  · have HE : Hid (pagesM pm.disks dev = 0) := Lib.hid (by unfold pagesM; rw [if_neg (by omega)])
    rw [HE.out]
    clear hp hok
    go_enter Tryd.func32, Tryd.ntmps32
    go_wp2_with fail
    refine HSH.out.mono ?_
    rintro e w1 ⟨D, T, rfl, hv1, hv1', hb1⟩
    obtain ⟨AD, cD, rfl⟩ := hv1.shape
    obtain ⟨AT, cT, rfl⟩ := hv1'.shape
    have HB1 := Lib.hid hb1
    clear hv1 hv1' hb1
    go_wp2_with fail
    go_ret
    exact ⟨rfl, HB1.out.trans ((below_al' _).mono HB1.out.size)⟩
  · by_cases hhi : dev < (pm.disks.length : Int)
    · obtain ⟨d, rfl⟩ := Int.eq_ofNat_of_zero_le (show 0 ≤ dev by omega)
      have hdl : d < pm.disks.length := by omega
      obtain ⟨n, hn⟩ : ∃ n, pm.disks[d]? = some n := ⟨_, List.getElem?_eq_getElem hdl⟩
      have hn4 : 1 ≤ n ∧ n ≤ 4096 := by
        have hdd : d < pm.devs.length := by have := HOK.out.shape; omega
        have := HOK.out.most d _ (List.getElem?_eq_getElem hdd)
        rw [List.getElem?_append_left hdl, hn] at this
        have h1 := this.1
        injection h1 with h1
        omega
      have HN := Lib.hid hn
      obtain ⟨q, hq⟩ : ∃ q, min ((n - 2) / 8) 384 = q := ⟨_, rfl⟩
      have HE : Hid (pagesM pm.disks (d : Int) = q) := Lib.hid (by
        unfold pagesM
        rw [if_pos (by omega), ← hq]
        simp [List.getD_eq_getElem?_getD, hn])
      rw [HE.out]
      have hge : ¬ (pm.disks.length : Int) ≤ (d : Int) := by omega
      have hge2 : decide (pm.disks.length ≤ d) = false := decide_eq_false (by omega)
      have hge3 : decide ((d : Int) < 0) = false := decide_eq_false (by omega)
      have hge1 : decide ((pm.disks.length : Int) ≤ (d : Int)) = false := decide_eq_false hge
      clear hp hok hn hlo hhi
      go_enter Tryd.func32, Tryd.ntmps32
      go_wp2_with fail
      refine HSH.out.mono ?_
      rintro e w1 ⟨D, T, rfl, hv1, hv1', hb1⟩
      obtain ⟨AD, cD, rfl⟩ := hv1.shape
      obtain ⟨AT, cT, rfl⟩ := hv1'.shape
      obtain ⟨gD, hA, hcd⟩ := hv1.cell d _ (by rw [List.getElem?_map, HN.out]; rfl)
      subst hA
      have hcd' : w1.cell? ⟨gD, d, none⟩ = some (.int .i64 (n : Int)) := hcd
      have HB1 := Lib.hid hb1
      have hcd2 := ((below_al' (w := w1) (.cells #[.slice (some ⟨gD, 0, none⟩) pm.disks.length cD, .slice AT pm.tapes.length cT] 30)).cell (cell_lt hcd')).trans hcd'
      clear hv1 hv1' hb1 hcd
      obtain ⟨t, ht⟩ : ∃ t, (n - 2) / 8 = t := ⟨_, rfl⟩
      have htd : ((n : Int) - 2).tdiv 8 = (t : Int) := by
        rcases Nat.lt_or_ge n 2 with h | h
        · obtain rfl : n = 1 := by omega
          subst ht
          rfl
        · rw [Int.tdiv_eq_ediv_of_nonneg (by omega)]
          omega
      have ht0 : (0 : Int) ≤ (t : Int) := by omega
      have hn1 : (1 : Int) ≤ (n : Int) := by omega
      have hn2 : (n : Int) ≤ 4096 := by omega
      have ht1 : (t : Int) ≤ 1000 := by omega
      clear hn4
      by_cases ht3 : t ≤ 384
      · have ht3' : (t : Int) ≤ 384 := by omega
        obtain rfl : t = q := by omega
        clear hq ht
        go_wp2_with fail
        · go_ret
          exact ⟨rfl, HB1.out.trans ((below_al' _).mono HB1.out.size)⟩
        · obtain rfl : t = 0 := by omega
          go_ret
          exact ⟨rfl, HB1.out.trans ((below_al' _).mono HB1.out.size)⟩
      · have ht3' : ¬ (t : Int) ≤ 384 := by omega
        obtain rfl : q = 384 := by omega
        clear hq ht
        go_wp2_with fail
        go_ret
        exact ⟨rfl, HB1.out.trans ((below_al' _).mono HB1.out.size)⟩
    · have HE : Hid (pagesM pm.disks dev = 0) := Lib.hid (by unfold pagesM; rw [if_neg (by omega)])
      have hge : (pm.disks.length : Int) ≤ dev := by omega
      rw [HE.out]
      clear hp hok
      go_enter Tryd.func32, Tryd.ntmps32
      go_wp2_with fail
      refine HSH.out.mono ?_
      rintro e w1 ⟨D, T, rfl, hv1, hv1', hb1⟩
      obtain ⟨AD, cD, rfl⟩ := hv1.shape
      obtain ⟨AT, cT, rfl⟩ := hv1'.shape
      have HB1 := Lib.hid hb1
      clear hv1 hv1' hb1
      go_wp2_with fail
      go_ret
      exact ⟨rfl, HB1.out.trans ((below_al' _).mono HB1.out.size)⟩
/-- What 'super' gives back: a sector of its own. -/
theorem rest_zero {n : Nat} (_hn : n ≤ 64) (bs : List UInt8) (hl : bs.length = n) : List.take 0 (List.replicate 64 (0 : UInt8)) ++ List.take n bs ++ List.drop (0 + n) (List.replicate 64 0) = bs ++ List.replicate (64 - n) 0 := by
  rw [List.take_zero, List.nil_append, List.take_of_length_le (by omega), Nat.zero_add, List.drop_replicate]
set_option maxRecDepth 100000 in
set_option maxHeartbeats 4000000 in
theorem super_any (w : World) (gen r1 : Nat) (root : Int) (use : List UInt8) (hg : gen < 18446744073709551616) (hr : root + 1 = (r1 : Int)) (hr2 : r1 < 65536) (hu : use.length = 48) (ht : Tab w) (hgc : 0 < w.heap.size) :
    Calls Tryd.prog 36 #[.int .u64 (gen : Int), .int .i64 root, .agg (cellsOf use)] w (RetF w (superM gen r1 use)) := by
  have HU := Lib.hid hu
  have hk1 := Blk.new w 72 (cellsOf use)
  have hb1 := below_al' (w := w) (.cells (cellsOf use) 72)
  have HT := Lib.hid (ht.below hb1 hgc)
  have HK1 := Lib.hid hk1
  have HB1 := Lib.hid hb1
  have hu48 : (cellsOf use).size = 48 := by simp [cellsOf, hu]
  have hmk := run_make64
  clear ht hu hk1 hb1
  go_enter Tryd.func36, Tryd.ntmps36
  go_wp2_with fail
  generalize w.alloc (.cells (cellsOf use) 72) = w1 at *
  refine (number_yes none [] 0 0 gen 8 w1 rfl (by omega) (BAt.nil_ _ _) (by omega) (by omega) hg).mono ?_
  rintro e w2 ⟨A2, N2, c2, rfl, ho, hbw⟩
  obtain rfl : N2 = 8 := by rw [← ho.len]; simp [beB_length]
  have HO2 := Lib.hid (ho.mono HB1.out.size)
  have HW2 := Lib.hid (HB1.out.trans (hbw.mono HB1.out.size))
  have HK2 := Lib.hid (HK1.out.below_ hbw)
  have HT2 := Lib.hid (HT.out.below hbw (Nat.lt_of_lt_of_le hgc HB1.out.size))
  clear hbw ho
  go_wp2_with fail
  refine (number_yes A2 ([] ++ beB gen 8) 8 c2 r1 2 w2 HO2.out.len (by omega) HO2.out.bat (by omega) (by omega) (by omega)).mono ?_
  rintro e w3 ⟨A3, N3, c3, rfl, ho, hbw⟩
  obtain rfl : N3 = 10 := by rw [← ho.len]; simp [beB_length]
  have HO3 := Lib.hid (ho.mono HW2.out.size)
  have HW3 := Lib.hid (HW2.out.trans (hbw.mono HW2.out.size))
  have HK3 := Lib.hid (HK2.out.below_ hbw)
  have HT3 := Lib.hid (HT2.out.below hbw (Nat.lt_of_lt_of_le hgc HW2.out.size))
  clear hbw ho HK2 HO2 HT2
  go_wp2_with
    (at_builtin
     refine wpList_append_bytes rfl (.tmp 16) (.tmp 17) _ rfl w.heap.size _ Pl.byteTy A3 10 c3 _ rfl HO3.out _ 48 48 use rfl HK3.out.bat HU.out 58 rfl (by omega) HW3.out.size ?_
     intro A4 c4 w4 ho4 hg4 hb4 hA4
     have HO4 := Lib.hid ho4
     have HW4 := Lib.hid (HW3.out.trans hb4)
     have HT4 := Lib.hid (HT3.out.below hb4 hgc)
     clear ho4 hg4 hb4 hA4)
  have hhead : [] ++ beB gen 8 ++ beB r1 2 ++ use = superHead gen r1 use := by unfold superHead; simp
  rw [hhead] at HO4
  clear hhead
  refine (sum_any _ (superHead gen r1 use) _ _ _ HO4.out.len (by omega) HO4.out.bat HT4.out).mono ?_
  rintro e _ ⟨rfl, rfl⟩
  have hu : U (more 0#32 (superHead gen r1 use)) = (((more 0#32 (superHead gen r1 use)).toNat : Nat) : Int) := rfl
  rw [hu]
  have hlt : (more 0#32 (superHead gen r1 use)).toNat < 4294967296 := (more 0#32 (superHead gen r1 use)).isLt
  have hpk : superM gen r1 use = superHead gen r1 use ++ beB (more 0#32 (superHead gen r1 use)).toNat 4 ++ List.replicate 2 0 := rfl
  clear hu
  generalize (more 0#32 (superHead gen r1 use)).toNat = s at *
  have HPK := Lib.hid hpk
  clear hpk
  go_wp2_with fail
  refine (number_yes A4 (superHead gen r1 use) 58 c4 s 4 _ HO4.out.len (by omega) HO4.out.bat (by omega) (by omega) (by omega)).mono ?_
  rintro e w5 ⟨A5, N5, c5, rfl, ho, hbw⟩
  have hl5 := ho.len
  obtain rfl : N5 = 62 := by rw [← hl5]; simp [beB_length, superHead_len gen r1 HU.out]
  have hnil : A5 = none → c5 = 0 := fun h0 => by
    rcases ho.form with ⟨_, h1, _⟩ | ⟨g, h1, _⟩
    · omega
    · rw [h0] at h1; cases h1
  have HN5 := Lib.hid hnil
  have HO5 := Lib.hid ho
  have HW5 := Lib.hid (HW4.out.trans (hbw.mono HW4.out.size))
  have hk6 : Blk (w5.alloc (.cells (zeros.map B8).toArray 5)) w5.heap.size 5 (cellsOf zeros) := Blk.new w5 5 (cellsOf zeros)
  have hb6 := below_al' (w := w5) (.cells (zeros.map B8).toArray 5)
  have HK6 := Lib.hid hk6
  have HB6 := Lib.hid hb6
  have HO6 := Lib.hid (ho.below hb6)
  clear hbw ho hk6 hb6 HO4 HO3 hl5 hnil HT4 HT3 HK3
  go_wp2_with
    (refine wpList_copy_bytes rfl (.tmp 25) (.tmp 26) _ rfl _ Pl.byteTy w5.heap.size 0 64 64 _ zeros rfl HK6.out A5 62 c5 _ rfl HO6.out.bat HO6.out.len 62 (by decide) (by rw [zeros_len]; omega) HN5.out ?_
     intro w6 hk6 hg6 hz6
     have HK7 := Lib.hid hk6
     have HG7 := Lib.hid hg6
     clear hk6 hg6 hz6)
  go_ret
  have hl6 := HO6.out.len
  have e : superM gen r1 use = List.take 0 zeros ++ List.take 62 (superHead gen r1 use ++ beB s 4) ++ List.drop (0 + 62) zeros := by
    rw [HPK.out, List.take_of_length_le (l := superHead gen r1 use ++ beB s 4) (by omega)]
    rfl
  have h7 := HK7.out
  rw [← e] at h7
  refine ⟨w5.heap.size, rfl, Own.of_blk h7 HW5.out.size (superM_len gen r1 HU.out) (by decide), ?_⟩
  exact (HW5.out.trans (HB6.out.mono HW5.out.size)).grown HG7.out (Nat.le_trans HW5.out.size HB6.out.size) (fun k hk => by injection hk with hk; rw [← hk]; exact HW5.out.size)
end Go.Proofs.YtookhagpgkefpaaDoor.Pag
