/- A journal's disk in a law's hands: the power on, no fuse. -/
import Derived.Test.YtlnfeehokpkgiaaDoorWalOpened
namespace Go.Proofs.YtlnfeehokpkgiaaDoor.Wal
open Go Go.RowKit Mem Pl Disk Crc _root_.Go.Proofs.YtlnfeehokpkgiaaDoor.Frame
/-- The law's own blocks. -/
def KOk (B : Nat) (w : World) (F K : Nat → Prop) : Prop := ∀ k, K k → B ≤ k ∧ ¬ F k ∧ k < w.heap.size
section
variable {B : Nat} {w w' : World} {F F' K K' : Nat → Prop} {a n n' dev : Nat} {pm pm' : PM}
theorem FrD.kok (h : FrD B w F K a pm n dev F' K' pm' w') (hk : KOk B w F K) : KOk B w' F' K := fun k hK =>
  ⟨(hk k hK).1, fun hF => (h.grow k hF).elim (hk k hK).2.1 (fun e => by have := (hk k hK).2.2; omega), Nat.lt_of_lt_of_le (hk k hK).2.2 h.mods.size⟩
theorem KOk.or (h : KOk B w F K) {g : Nat} (h1 : B ≤ g) (h2 : ¬ F g) (h3 : g < w.heap.size) : KOk B w F (fun k => K k ∨ k = g) := fun k hk => by
  rcases hk with hk | rfl
  · exact h k hk
  · exact ⟨h1, h2, h3⟩
theorem FrD.lows (h : FrD B w F K a pm n dev F' K' pm' w') (hs : St B w F a pm n') (hk : KOk B w F K) (hB : B ≤ w.heap.size) : Below B w w' := h.low hB (fun k hF => (hs.lt k hF).1) fun k hK => (hk k hK).1
/-- A journal's disk, the power on, no fuse. -/
structure Onz (B : Nat) (w : World) (F K : Nat → Prop) (a : Nat) (pm : PM) (n dev N : Nat) (H : List (List UInt8)) (G E S nx : Nat) (txs : List Tx) : Prop where
  st : St B w F a pm n
  disk : Disk pm dev N H []
  on : pm.off = false
  fuse : pm.fuse = none
  jr : Jr N H G E S txs nx
  kok : KOk B w F K
  size : B ≤ w.heap.size
  tab : Tab w
  gc : 0 < B
end
section
variable {B : Nat} {w w' : World} {F F' K : Nat → Prop} {a n n' dev N : Nat} {pm pm' : PM} {H H' : List (List UInt8)} {G E S nx G' E' S' nx' g : Nat} {txs txs' : List Tx}
theorem Onz.next (x : Onz B w F K a pm n dev N H G E S nx txs) (h : FrD B w F K a pm n' dev F' K pm' w') (hd : Disk pm' dev N H' []) (hon : pm'.off = false) (hj : Jr N H' G' E' S' txs' nx') : Onz B w' F' K a pm' n' dev N H' G' E' S' nx' txs' :=
  ⟨h.st, hd, hon, h.fuse x.fuse, hj, h.kok x.kok, Nat.le_trans x.size h.mods.size, x.tab.below (h.lows x.st x.kok x.size) x.gc, x.gc⟩
theorem Onz.below (x : Onz B w F K a pm n dev N H G E S nx txs) (hb : Below w.heap.size w w') : Onz B w' F K a pm n dev N H G E S nx txs :=
  ⟨x.st.below hb, x.disk, x.on, x.fuse, x.jr, fun k hk => ⟨(x.kok k hk).1, (x.kok k hk).2.1, Nat.lt_of_lt_of_le (x.kok k hk).2.2 hb.size⟩, Nat.le_trans x.size hb.size, x.tab.below hb (Nat.lt_of_lt_of_le x.gc x.size), x.gc⟩
theorem Onz.grown (x : Onz B w F K a pm n dev N H G E S nx txs) (h1 : B ≤ g) (h2 : ¬ F g) (h3 : g < w.heap.size) : Onz B w F (fun k => K k ∨ k = g) a pm n dev N H G E S nx txs :=
  ⟨x.st, x.disk, x.on, x.fuse, x.jr, x.kok.or h1 h2 h3, x.size, x.tab, x.gc⟩
/-- What 'Open' leaves. -/
def OpnZ (B : Nat) (w : World) (F K : Nat → Prop) (a : Nat) (pm : PM) (n dev N : Nat) (G E nx : Nat) (txs : List Tx) (e : Ending) (w' : World) : Prop :=
  ∃ (F' : Nat → Prop) (pm' : PM) (H' : List (List UInt8)) (g : Nat) (A : Option Addr) (c : Nat), e = .returned (.tuple #[.pointer (some ⟨g, 0, none⟩), .slice A txs.length c, .int .i64 0]) ∧
    FrD B w F K a pm (n + 2) dev F' (fun k => K k ∨ k = g) pm' w' ∧ Onz B w' F' (fun k => K k ∨ k = g) a pm' (n + 2) dev N H' (G + 1) E (G + 1) nx txs ∧ WalB w' g a dev N ⟨G + 1, E, nx, txs.length + 1⟩ ∧
    TxsAt w' (Calm B F' fun k => K k ∨ k = g) txs (.slice A txs.length c) ∧ w.heap.size ≤ g
theorem Onz.open_ (x : Onz B w F K a pm n dev N H G E S nx txs) (hn : n ≤ 800000000) (hG : G + 1 < 4000000000) :
    Calls Tryd.prog 15 #[.pointer (some ⟨a, 0, none⟩), .int .i64 (dev : Int)] w (OpnZ B w F K a pm n dev N G E nx txs) := by
  refine (open_jr x.st x.disk x.size hn x.on x.jr x.tab x.gc).mono ?_
  rintro e w' ⟨F', pm', hf, ⟨g, v, rfl, hd, hon, hg1, hg2, hw, ht⟩ | ⟨_, hno, _⟩⟩
  · obtain ⟨A, c, rfl, _⟩ := ht.rows
    have hfd := hf.desk (K := K)
    have y := (x.next hfd hd hon (x.jr.header hG)).grown (Nat.le_trans x.size hg1) hg2 (Blk.lt hw)
    refine ⟨F', pm', _, g, A, c, rfl, hfd.own fun k hk => hk.elim .inl fun e => .inr (by rw [e]; exact hg1), y, hw, ht.mono fun k hlt hk => ⟨Nat.le_trans x.size hk.1, hk.2.1, fun hh => hh.elim (fun h => ?_) hk.2.2⟩, hg1⟩
    have := (x.kok k h).2.2
    have : w.heap.size ≤ k := hk.1
    omega
  · exact absurd x.fuse hno
/-- What 'Append' leaves. -/
def ApdZ (B : Nat) (w : World) (F K : Nat → Prop) (a : Nat) (pm : PM) (n dev N : Nat) (H : List (List UInt8)) (G E nx : Nat) (txs : List Tx) (g : Nat) (tx : Tx) (e : Ending) (w' : World) : Prop :=
  ∃ (F' : Nat → Prop) (pm' : PM), FrD B w F K a pm (n + 25) dev F' K pm' w' ∧
    ((longM tx = true ∧ e = .returned (.int .i64 5) ∧ Onz B w' F' K a pm' (n + 25) dev N H G E G nx txs ∧ WalB w' g a dev N ⟨G, E, nx, txs.length + 1⟩) ∨
     (longM tx = false ∧ fitsM N nx tx = false ∧ e = .returned (.int .i64 3) ∧ Onz B w' F' K a pm' (n + 25) dev N H G E G nx txs ∧ WalB w' g a dev N ⟨G, E, nx, txs.length + 1⟩) ∨
     (fitsM N nx tx = true ∧ e = .returned (.int .i64 0) ∧ ∃ H', Onz B w' F' K a pm' (n + 25) dev N H' G E G (nx + partsM (encM tx)) (txs ++ [tx]) ∧ WalB w' g a dev N ⟨G, E, nx + partsM (encM tx), (txs ++ [tx]).length + 1⟩))
theorem Onz.append (x : Onz B w F K a pm n dev N H G E G nx txs) (hn : n ≤ 800000000) (hw : WalB w g a dev N ⟨G, E, nx, txs.length + 1⟩) (hK : K g) {A : Option Addr} {nt c : Nat} {tx : Tx} (h : RowsAt w A tx) (hl : tx.length = nt) (hnt : nt ≤ 1000000000) (htot : totM tx ≤ 1000000000000000) :
    Calls Tryd.prog 16 #[.pointer (some ⟨g, 0, none⟩), .slice A nt c] w (ApdZ B w F K a pm n dev N H G E nx txs g tx) := by
  refine (append_jr x.st x.disk x.size hn x.on x.jr hw (x.kok g hK).2.1 h hl hnt htot x.tab x.gc).mono ?_
  rintro e w' ⟨F', pm', hf, h⟩
  have hfd := hf.desk hK
  refine ⟨F', pm', hfd, ?_⟩
  rcases h with ⟨h1, h2, h3, h4, h5⟩ | ⟨h0, h1, h2, h3, h4, h5⟩ | ⟨h1, h2, h3, h4, H', h5, h6⟩ | ⟨_, _, hno, _⟩
  · exact .inl ⟨h1, h2, x.next hfd h3 h4 x.jr, h5⟩
  · exact .inr (.inl ⟨h0, h1, h2, x.next hfd h3 h4 x.jr, h5⟩)
  · exact .inr (.inr ⟨h1, h2, H', x.next hfd h5 h3 h6, h4⟩)
  · exact absurd x.fuse hno
theorem Onz.trunc (x : Onz B w F K a pm n dev N H G E G nx txs) (hn : n ≤ 800000000) (hG : G + 1 < 4000000000) (hw : WalB w g a dev N ⟨G, E, nx, txs.length + 1⟩) (hK : K g) :
    Calls Tryd.prog 20 #[.pointer (some ⟨g, 0, none⟩)] w fun e w' => ∃ (F' : Nat → Prop) (pm' : PM) (H' : List (List UInt8)), e = .returned (.int .i64 0) ∧ FrD B w F K a pm (n + 2) dev F' K pm' w' ∧
      Onz B w' F' K a pm' (n + 2) dev N H' (G + 1) (G + 1) (G + 1) 2 [] ∧ WalB w' g a dev N ⟨G + 1, G + 1, 2, 1⟩ := by
  refine (truncate_jr x.st x.disk x.size hn x.on x.jr hG hw (x.kok g hK).2.1 x.tab x.gc).mono ?_
  rintro e w' ⟨F', pm', hf, ⟨h1, h2, h3, H', h4, h5⟩ | ⟨_, hno, _⟩⟩
  · exact ⟨F', pm', H', h1, hf.desk hK, x.next (hf.desk hK) h4 h2 h5, h3⟩
  · exact absurd x.fuse hno
theorem Onz.boot (x : Onz B w F K a pm n dev N H G E S nx txs) (hn : n ≤ 800000000) (AK : Option Addr) (nk ck : Nat) (keep : List Int) (hk : IAt w AK keep) (hkl : keep.length = nk) (hkn : keep ≠ [] → ∀ ad, AK = some ad → ¬ F ad.block) (hnk : nk ≤ 9223372036854775807) :
    Calls Tryd.prog 17 #[.pointer (some ⟨a, 0, none⟩), .slice AK nk ck] w fun e w' => ∃ (F' : Nat → Prop) (pm' : PM), e = .returned (.tuple #[]) ∧ FrD B w F K a pm (n + 1) dev F' K pm' w' ∧
      Onz B w' F' K a pm' (n + 1) dev N H G E S nx txs := by
  refine (St.booted (K := K) (dev := dev) x.st x.size (by omega) AK nk ck keep hk hkl hkn hnk).mono ?_
  rintro e w' ⟨he, hf⟩
  obtain ⟨vs, h1, h2⟩ := x.disk.boot keep
  rw [List.sublist_nil.1 h2] at h1
  exact ⟨_, _, he, hf, x.next hf h1 rfl x.jr⟩
/-- A disk is formatted. -/
theorem onz_format (hst : St B w F a pm n) {ws : Ws} (hd : Disk pm dev N H ws) (hon : pm.off = false) (hfu : pm.fuse = none) (hk : KOk B w F K) (hB : B ≤ w.heap.size) (ht : Tab w) (hgc : 0 < B) (hn : n ≤ 800000000) (h8 : 8 ≤ N) :
    Calls Tryd.prog 14 #[.pointer (some ⟨a, 0, none⟩), .int .i64 (dev : Int)] w fun e w' => ∃ (F' : Nat → Prop) (pm' : PM), e = .returned (.int .i64 0) ∧ FrD B w F K a pm (n + 2 * N + 2) dev F' K pm' w' ∧
      Onz B w' F' K a pm' (n + 2 * N + 2) dev N (freshH N) 1 1 1 2 [] := by
  have hN4 := (hd.size hst.ok).2
  refine (format_on hst hd hB hn hon h8 ht hgc).mono ?_
  rintro e w' ⟨F', pm', hf, ⟨h1, h2, h3⟩ | ⟨_, hno, _⟩⟩
  · have hfd := hf.desk (K := K)
    exact ⟨F', pm', h1, hfd, hfd.st, h2, h3, hfd.fuse hfu, Jr.fresh h8 (by omega), hfd.kok hk, Nat.le_trans hB hfd.mods.size, ht.below (hfd.lows hst hk hB) hgc, hgc⟩
  · exact absurd hfu hno
end
end Go.Proofs.YtlnfeehokpkgiaaDoor.Wal
/- The frame of a desk's call that may set a fuse. -/
namespace Go.Proofs.YtlnfeehokpkgiaaDoor.Wal
open Go Go.RowKit Mem Pl Disk Crc _root_.Go.Proofs.YtlnfeehokpkgiaaDoor.Frame
structure FrE (B : Nat) (w : World) (F K : Nat → Prop) (a : Nat) (pm : PM) (n dev : Nat) (F' K' : Nat → Prop) (pm' : PM) (w' : World) : Prop where
  grow : ∀ k, F' k → F k ∨ w.heap.size ≤ k
  growK : ∀ k, K' k → K k ∨ w.heap.size ≤ k
  mods : Mods w.heap.size (fun k => F k ∨ K k) w w'
  st : St B w' F' a pm' n
  els : Quiet0 dev pm pm'
section
variable {B : Nat} {w w1 w' : World} {F F1 F' K K1 K' : Nat → Prop} {a n n1 n' dev g d : Nat} {pm pm1 pm' : PM}
theorem FrD.e (h : FrD B w F K a pm n dev F' K' pm' w') : FrE B w F K a pm n dev F' K' pm' w' := ⟨h.grow, h.growK, h.mods, h.st, h.els⟩
theorem FrE.more (h : FrE B w F K a pm n dev F' K' pm' w') (hn : n ≤ n1) : FrE B w F K a pm n1 dev F' K' pm' w' := ⟨h.grow, h.growK, h.mods, st_more h.st hn, h.els⟩
theorem FrE.trans (h : FrE B w F K a pm n1 dev F1 K1 pm1 w1) (k : FrE B w1 F1 K1 a pm1 n dev F' K' pm' w') : FrE B w F K a pm n dev F' K' pm' w' :=
  ⟨fun g hg => (k.grow g hg).elim (h.grow g) fun h1 => .inr (Nat.le_trans h.mods.size h1), fun g hg => (k.growK g hg).elim (h.growK g) fun h1 => .inr (Nat.le_trans h.mods.size h1),
    h.mods.trans (k.mods.mono h.mods.size fun g hlt hg => hg.elim (fun hg => .inl ((h.grow g hg).resolve_right (by omega))) fun hg => .inr ((h.growK g hg).resolve_right (by omega))), k.st, fun j N H hj hd => k.els j N H hj (h.els j N H hj hd)⟩
theorem FrE.below (h : FrE B w F K a pm n dev F' K' pm' w1) (hb : Below w1.heap.size w1 w') : FrE B w F K a pm n dev F' K' pm' w' :=
  ⟨h.grow, h.growK, h.mods.then_below hb h.mods.size, h.st.below hb, h.els⟩
theorem FrE.of_below (h : FrE B w1 F K a pm n dev F' K' pm' w') (hb : Below w.heap.size w w1) : FrE B w F K a pm n dev F' K' pm' w' :=
  ⟨fun g hg => (h.grow g hg).imp id fun h => Nat.le_trans hb.size h, fun g hg => (h.growK g hg).imp id fun h => Nat.le_trans hb.size h, (Mods.of_below hb).trans (h.mods.mono hb.size fun _ _ h => h), h.st, h.els⟩
theorem FrE.own (h : FrE B w F K a pm n dev F' K' pm' w') (hK : ∀ k, K1 k → K' k ∨ w.heap.size ≤ k) : FrE B w F K a pm n dev F' K1 pm' w' :=
  ⟨h.grow, fun k hk => (hK k hk).elim (h.growK k) .inr, h.mods, h.st, h.els⟩
theorem FrE.kok (h : FrE B w F K a pm n dev F' K' pm' w') (hk : KOk B w F K) : KOk B w' F' K := fun k hK =>
  ⟨(hk k hK).1, fun hF => (h.grow k hF).elim (hk k hK).2.1 (fun e => by have := (hk k hK).2.2; omega), Nat.lt_of_lt_of_le (hk k hK).2.2 h.mods.size⟩
theorem FrE.lows (h : FrE B w F K a pm n dev F' K' pm' w') (hs : St B w F a pm n') (hk : KOk B w F K) (hB : B ≤ w.heap.size) : Below B w w' :=
  (h.mods.mono hB fun _ _ hf => hf).below fun k hl hf => by
    rcases hf with hf | hf
    · have := (hs.lt k hf).1; omega
    · have := (hk k hf).1; omega
theorem FrE.calm (h : FrE B w F K a pm n dev F' K' pm' w') {txs : List Tx} {v : Value} (x : TxsAt w (Calm B F K) txs v) : TxsAt w' (Calm B F' K') txs v := by
  have x1 : TxsAt w (fun k => Calm B F K k ∧ k < w.heap.size) txs v := x.mono fun k hk hc => ⟨hc, hk⟩
  have x2 : TxsAt w' (fun k => Calm B F K k ∧ k < w.heap.size) txs v := x1.mods h.mods fun k hk hc => ⟨hk, fun hh => hh.elim hc.1.2.1 hc.1.2.2⟩
  exact x2.mono fun k _ hc => ⟨hc.1.1, fun hF => (h.grow k hF).elim hc.1.2.1 fun h1 => by have := hc.2; omega, fun hK => (h.growK k hK).elim hc.1.2.2 fun h1 => by have := hc.2; omega⟩
/-- A cell of the desk's own. -/
theorem FrE.cell (h : FrE B w F K a pm n dev F' K' pm' w') (hd : K' d) (hF : ¬ F' d) (i : Nat) (u : Value) : FrE B w F K a pm n dev F' K' pm' (w'.setCell ⟨d, i, none⟩ u) := by
  have hm : Mods w'.heap.size (fun j => j = d) w' (w'.setCell ⟨d, i, none⟩ u) := (Mods.refl w'.heap.size (fun j => j = d) w').setCell (p := ⟨d, i, none⟩) (.inl rfl) u
  refine ⟨h.grow, h.growK, ?_, ⟨h.st.at_.mods hm fun k hk hF2 => ⟨hk, fun e => ?_⟩, h.st.ok, fun k hk => ⟨(h.st.lt k hk).1, ?_⟩, h.st.steps, h.st.waits⟩, h.els⟩
  · rcases h.growK d hd with hk | hk
    · exact h.mods.setCell (p := ⟨d, i, none⟩) (.inl (.inr hk)) u
    · exact h.mods.setCell (p := ⟨d, i, none⟩) (.inr hk) u
  · subst e
    exact hF hF2
  · simpa using (h.st.lt k hk).2
/-- A fuse is set. -/
theorem St.fused (h : St B w F a pm n) (hB : B ≤ w.heap.size) (z : Int) (hz : z < 9223372036854775808) :
    Calls Tryd.prog 23 #[.pointer (some ⟨a, 0, none⟩), .int .i64 z] w fun e w' => e = .returned (.tuple #[]) ∧ FrE B w F K a pm (n + 1) dev (Grow F w w') K (pm.setFuse z) w' := by
  refine (h.setFuse hB z hz).mono ?_
  rintro e w' ⟨he, hs, hm⟩
  exact ⟨he, grow_new, fun _ h => .inl h, hm.mono (Nat.le_refl _) fun _ _ h => .inl h, hs, fun j N H _ hd => (hd.fuse z).1⟩
end
end Go.Proofs.YtlnfeehokpkgiaaDoor.Wal
