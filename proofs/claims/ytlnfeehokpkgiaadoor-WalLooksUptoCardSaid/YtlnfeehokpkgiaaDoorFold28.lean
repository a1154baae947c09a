/- The desk's 'dark'; what each of its calls leaves. -/
import Derived.Test.YtlnfeehokpkgiaaDoorWalShown
import Derived.Test.YtlnfeehokpkgiaaDoorFold24
import Derived.Test.YtlnfeehokpkgiaaDoorFold8
import Derived.Test.YtlnfeehokpkgiaaDoorPlNew
namespace Go.Proofs.YtlnfeehokpkgiaaDoor.Wal
open Go Go.RowKit Mem Pl Disk Crc _root_.Go.Proofs.YtlnfeehokpkgiaaDoor.Frame
/-- What a desk's call leaves: it answers true, and the desk stands. -/
def DoneP (B : Nat) (w : World) (F K : Nat → Prop) (a : Nat) (pm : PM) (n dev N d : Nat) (dm Gm : Nat) (e : Ending) (w' : World) : Prop :=
  ∃ (F' K' : Nat → Prop) (pm' : PM) (g : Nat) (v : Value) (txs : List Tx) (dims : Nat) (H : List (List UInt8)) (G E nx : Nat), e = .returned (.bool true) ∧ FrE B w F K a pm n dev F' K' pm' w' ∧
    Dsk B w' F' K' a pm' n dev N d g v txs (sumM txs) dims H G E nx ∧ KOk B w' F' K' ∧ G ≤ Gm ∧ dims ≤ dm
section
variable {B : Nat} {w w1 w' : World} {F F1 K K1 : Nat → Prop} {a n n1 n2 dev N d : Nat} {pm pm1 : PM} {dm dm1 Gm Gm1 : Nat} {e : Ending}
theorem DoneP.more (h : DoneP B w F K a pm n dev N d dm Gm e w') (hn : n ≤ n1) (hd : dm ≤ dm1) (hG : Gm ≤ Gm1) : DoneP B w F K a pm n1 dev N d dm1 Gm1 e w' := by
  obtain ⟨F', K', pm', g, v, txs, dims, H, G, E, nx, he, hf, x, hk, h1, h2⟩ := h
  exact ⟨F', K', pm', g, v, txs, dims, H, G, E, nx, he, hf.more hn, ⟨st_more x.st hn, x.disk, x.on, x.jr, x.wal, x.desk, x.now, x.gK, x.dK, x.gF, x.dF, x.gB, x.dB⟩, hk, by omega, by omega⟩
theorem DoneP.of (hf : FrE B w F K a pm n1 dev F1 K1 pm1 w1) (h : DoneP B w1 F1 K1 a pm1 n dev N d dm Gm e w') : DoneP B w F K a pm n dev N d dm Gm e w' := by
  obtain ⟨F', K', pm', g, v, txs, dims, H, G, E, nx, he, hf2, x, hk, h1, h2⟩ := h
  exact ⟨F', K', pm', g, v, txs, dims, H, G, E, nx, he, hf.trans hf2, x, hk, h1, h2⟩
theorem OpenedP.done {txs : List Tx} {dims G E nx : Nat} (h : OpenedP B w F K a pm n dev N d txs dims G E nx e w') (hk : KOk B w F K) : DoneP B w F K a pm (n + 8) dev N d (dims + 1) (G + 2) e w' := by
  obtain ⟨F', K', pm', g, v, H', G', dims', he, hf, x, h1, h2, h3⟩ := h
  exact ⟨F', K', pm', g, v, txs, dims', H', G', E, nx, he, hf.e, x, fun k hk' => (h3 k hk').elim (hf.kok hk k) fun e => by rw [e]; exact ⟨x.gB, x.gF, Blk.lt x.wal⟩, h1, h2⟩
end
/-- A desk, the power off. -/
structure DskX (B : Nat) (w : World) (F K : Nat → Prop) (a : Nat) (pm : PM) (n dev N d dims : Nat) (H : List (List UInt8)) (ws : Ws) (Gm : Nat) (mays : List (List Tx)) : Prop where
  st : St B w F a pm n
  disk : Disk pm dev N H ws
  off : pm.off = true
  jr : ∀ vs : Ws, vs.Sublist ws → ∃ (G E S nx : Nat) (txs : List Tx), G ≤ Gm ∧ txs ∈ mays ∧ Jr N (setAll vs H) G E S txs nx
  desk : ∃ (gv v : Value) (cost : Nat), Blk w d 58 #[.pointer (some ⟨a, 0, none⟩), .int .i64 (dev : Int), gv, v, .int .i64 (cost : Int), .int .i64 (N : Int), .int .i64 (dims : Int)]
  dK : K d
  dF : ¬ F d
  dB : B ≤ d
theorem keep_at {B : Nat} {w0 w : World} {AK : Option Addr} {keep : List Int} (hk : IAt w0 AK keep) (hb : Below B w0 w) (hkB : keep ≠ [] → ∀ ad, AK = some ad → ad.block < B) : IAt w AK keep := by
  rcases hk with h | ⟨ad, hA, hc⟩
  · exact .inl h
  · exact .inr ⟨ad, hA, fun k z hz => (hb.cell (by rw [addr_block]; exact hkB (fun e => by rw [e] at hz; cases hz) ad hA)).trans (hc k z hz)⟩
set_option maxRecDepth 100000 in
set_option maxHeartbeats 8000000 in
theorem dark_any {B : Nat} {w : World} {F K : Nat → Prop} {a : Nat} {pm : PM} {n dev N d dims : Nat} {H : List (List UInt8)} {ws : Ws} {Gm : Nat} {mays : List (List Tx)} (x : DskX B w F K a pm n dev N d dims H ws Gm mays) (hB : B ≤ w.heap.size) (hn : n ≤ 600000000) (hG : Gm + 3 < 4000000000) (hdm : dims ≤ 900000000000)
    (hKB : KOk B w F K) (AK : Option Addr) (nk ck : Nat) (keep : List Int) (hk : IAt w AK keep) (hkl : keep.length = nk) (hkB : keep ≠ [] → ∀ ad, AK = some ad → ad.block < B) (hnk : nk ≤ 9223372036854775807)
    {mv : Value} (hmay : MayAt w (Calm B F K) mays mv) (hml : mays.length ≤ 1000) (ht : Tab w) (hgc : 0 < B) :
    Calls Tryd.prog 48 #[.pointer (some ⟨d, 0, none⟩), .slice AK nk ck, mv] w (DoneP B w F K a pm (n + 9) dev N d (dims + 2) (Gm + 2)) := by
  obtain ⟨AM, cM, rfl, _⟩ := hmay.at_
  have hon := Pl.on_any x.st.at_
  rw [x.off] at hon
  have HON := Lib.hid hon
  obtain ⟨gv, v, cost, hb⟩ := x.desk
  have c0 : w.cell? ⟨d, 0, none⟩ = some (.pointer (some ⟨a, 0, none⟩)) := by rw [hb.cell]; rfl
  have HB := Lib.hid hb
  have HBT := Lib.hid (St.booted (K := fun _ => False) (dev := dev) x.st hB (by omega) AK nk ck keep hk hkl (fun hne ad hA hF => by have h1 := (x.st.lt _ hF).1; have h2 := hkB hne ad hA; omega) hnk)
  have HX := Lib.hid x
  have HMAY := Lib.hid hmay
  have HK := Lib.hid (⟨hk, hkl, hkB⟩ : _ ∧ _ ∧ _)
  have HT := Lib.hid ht
  have HKB := Lib.hid hKB
  clear x hmay hk hkl ht hKB hon hb hkB
  go_enter Tryd.func48, Tryd.ntmps48
  go_wp2_with fail
  refine HON.out.mono ?_
  rintro e _ ⟨rfl, rfl⟩
  go_wp2_with fail
  refine HBT.out.mono ?_
  rintro e w4 ⟨rfl, hf4⟩
  have hb4 := Blk.mods HB.out hf4.mods HB.out.lt fun h => h.elim HX.out.dF id
  have hf4k : FrD B w F K a pm (n + 1) dev (Grow F w w4) K (pm.boot keep) w4 := ⟨hf4.grow, fun _ h => .inl h, hf4.mods.mono (Nat.le_refl _) fun k _ h => h.imp id False.elim, hf4.st, hf4.els, hf4.fuse⟩
  have hdF4 : ¬ Grow F w w4 d := fun hF => (grow_new d hF).elim HX.out.dF fun h1 => by have := HB.out.lt; omega
  obtain ⟨dn, hdn⟩ : ∃ k, dims + 1 = k := ⟨_, rfl⟩
  have hwd : IntKind.i64.wrap ((dims : Int) + 1) = (dn : Int) := by rw [show (dims : Int) + 1 = (dn : Int) by omega]; exact IntWalk.i64_in _ (by omega)
  have hfd := hf4k.cell HX.out.dK hdF4 6 (.int .i64 (dn : Int))
  have HFD := Lib.hid hfd
  have b5 := Blk.set_ hb4 6 (.int .i64 (dn : Int))
  have HB5 : Hid (Blk (w4.setCell ⟨d, 6, none⟩ (.int .i64 (dn : Int))) d 58 #[.pointer (some ⟨a, 0, none⟩), .int .i64 (dev : Int), gv, v, .int .i64 (cost : Int), .int .i64 (N : Int), .int .i64 (dn : Int)]) := Lib.hid (by simpa using b5)
  have k6 : w4.cell? ⟨d, 6, none⟩ = some (.int .i64 (dims : Int)) := by rw [hb4.cell]; rfl
  have z6 := hb4.frozen 6
  obtain ⟨vs, h1, h2⟩ := HX.out.disk.boot keep
  obtain ⟨G, E, S, nx, txs, hGm, hmem, hjr⟩ := HX.out.jr vs h2
  have hlow := hfd.lows HX.out.st HKB.out hB
  have x0 : Dsk0 B (w4.setCell ⟨d, 6, none⟩ (.int .i64 (dn : Int))) (Grow F w w4) K a (pm.boot keep) (n + 1) dev N d txs dn (setAll vs H) G E S nx := ⟨hfd.st, h1, rfl, hjr, ⟨gv, v, cost, HB5.out⟩, HX.out.dK, hdF4, HX.out.dB⟩
  have hk5 := hfd.kok HKB.out
  have HOP := Lib.hid (opened_any x0 (Nat.le_trans hB hfd.mods.size) (by omega) (by omega) (by omega) (fun k h => ⟨(hk5 k h).1, (hk5 k h).2.1⟩) AK nk ck keep (keep_at HK.out.1 hlow HK.out.2.2) HK.out.2.1 HK.out.2.2 hnk (hfd.calmMay HMAY.out) hml hmem (HT.out.below hlow hgc) hgc)
  have HKO := Lib.hid (⟨hk5, hGm, hdn⟩ : _ ∧ _ ∧ _)
  clear hf4 hf4k hb4 b5 hfd h1 h2 hjr hlow x0 hk5 hmem hGm hdn c0 HBT
  go_wp2_with fail
  refine HOP.out.mono ?_
  rintro e w6 h
  have hdone := (OpenedP.done h HKO.out.1).of HFD.out.e
  obtain ⟨F', K', pm', g, v', txs', dims', H', G', E', nx', rfl, hf, y, hk', hG', hd'⟩ := hdone
  have HY := Lib.hid (⟨hf, y, hk'⟩ : _ ∧ _ ∧ _)
  have hG3 : G' ≤ Gm + 2 := by have := HKO.out.2.1; omega
  have hd3 : dims' ≤ dims + 2 := by have := HKO.out.2.2; omega
  clear h hf y hk' HOP
  go_wp2_with fail
  go_ret
  have y := HY.out.2.1
  exact ⟨F', K', pm', g, v', txs', dims', H', G', E', nx', rfl, HY.out.1.more (by omega), ⟨st_more y.st (by omega), y.disk, y.on, y.jr, y.wal, y.desk, y.now, y.gK, y.dK, y.gF, y.dF, y.gB, y.dB⟩, HY.out.2.2, hG3, hd3⟩
end Go.Proofs.YtlnfeehokpkgiaaDoor.Wal
/- Rows of the law's own beside a journal. -/
namespace Go.Proofs.YtlnfeehokpkgiaaDoor.Wal
open Go Go.RowKit Mem Pl Disk Crc _root_.Go.Proofs.YtlnfeehokpkgiaaDoor.Frame
section
variable {B : Nat} {w w1 w' : World} {F F' K K' J : Nat → Prop} {a n n' dev N g size : Nat} {pm pm' : PM} {H : List (List UInt8)} {G E S nx : Nat} {txs : List Tx} {t : TypeId} {v : Value} {xs : List Value}
theorem FrE.vec (h : FrE B w F K a pm n dev F' K' pm' w') (x : Vec w (Calm B F K) t size v n' xs) : Vec w' (Calm B F' K') t size v n' xs := by
  have x1 : Vec w (fun k => Calm B F K k ∧ k < w.heap.size) t size v n' xs := x.mono fun k hk hc => ⟨hc, hk⟩
  have x2 : Vec w' (fun k => Calm B F K k ∧ k < w.heap.size) t size v n' xs := x1.mods h.mods fun k hk hc => ⟨hk, fun hh => hh.elim hc.1.2.1 hc.1.2.2⟩
  exact x2.mono fun k _ hc => ⟨hc.1.1, fun hF => (h.grow k hF).elim hc.1.2.1 fun h1 => by have := hc.2; omega, fun hK => (h.growK k hK).elim hc.1.2.2 fun h1 => by have := hc.2; omega⟩
/-- What turns beside a journal. -/
theorem Onz.mods (x : Onz B w F K a pm n dev N H G E S nx txs) (hm : Mods w.heap.size J w w') (hJ : ∀ k, J k → B ≤ k ∧ ¬ F k ∧ ¬ K k) : Onz B w' F K a pm n dev N H G E S nx txs :=
  ⟨⟨x.st.at_.mods hm fun k hk hF => ⟨hk, fun h => (hJ k h).2.1 hF⟩, x.st.ok, fun k hk => ⟨(x.st.lt k hk).1, hm.lt (x.st.lt k hk).2⟩, x.st.steps, x.st.waits⟩, x.disk, x.on, x.fuse, x.jr,
    fun k hk => ⟨(x.kok k hk).1, (x.kok k hk).2.1, hm.lt (x.kok k hk).2.2⟩, Nat.le_trans x.size hm.size, x.tab.below ((hm.mono x.size fun _ _ h => h).below fun k hk h => by have := (hJ k h).1; omega) x.gc, x.gc⟩
/-- New blocks, grown. -/
theorem mods_grow {row : Option Nat} (hb : Below w.heap.size w w1) (hg : w1.grownBy w' row) (hr : row = none ∨ ∃ g cs, row = some g ∧ J g ∧ w1.heap[g]? = some (Obj.cells cs t (0, 0))) : Mods w.heap.size J w w' :=
  (Mods.of_below hb).grown hg hb.size fun k hk => by
    rcases hr with h | ⟨k', cs, h, hj, _⟩
    · rw [h] at hk; cases hk
    · rw [h] at hk
      injection hk with hk
      exact .inl (hk ▸ hj)
/-- Transactions whose rows lie in a law's arguments. -/
def ToldAt (W : World) (w : World) (J : Nat → Prop) (txs : List Tx) (v : Value) : Prop :=
  ∃ vs, Vec w J 42 1 v txs.length vs ∧ ∀ (k : Nat) (tx : Tx), txs[k]? = some tx → ∃ A c, vs[k]? = some (.slice A tx.length c) ∧ RowsAt W A tx
theorem ToldAt.rows {W : World} (x : ToldAt W w J txs v) (hb : Below W.heap.size W w) : ∃ A c, v = .slice A txs.length c ∧ TxRows w A txs := by
  obtain ⟨vs, h1, h2⟩ := x
  obtain ⟨A, c, rfl⟩ := h1.shape
  refine ⟨A, c, rfl, fun i tx hi => ?_⟩
  obtain ⟨B, cb, hu, ht⟩ := h2 i tx hi
  obtain ⟨g, rfl, hc⟩ := h1.cell i _ hu
  refine ⟨_, B, cb, rfl, ?_, ht.below hb⟩
  rw [add_off]
  simpa using hc
theorem ToldAt.frame {W : World} (x : ToldAt W w (Calm B F K) txs v) (h : FrE B w F K a pm n dev F' K' pm' w') : ToldAt W w' (Calm B F' K') txs v := by
  obtain ⟨vs, h1, h2⟩ := x
  exact ⟨vs, h.vec h1, h2⟩
/-- One more. -/
theorem ToldAt.snoc {W : World} {tx : Tx} {A : Option Addr} {c : Nat} {vs : List Value} {J' : Nat → Prop} (hv : Vec w' J' 42 1 v (txs.length + 1) (vs ++ [.slice A tx.length c])) (hl : vs.length = txs.length) (h : ∀ (k : Nat) (t : Tx), txs[k]? = some t → ∃ A c, vs[k]? = some (.slice A t.length c) ∧ RowsAt W A t) (ht : RowsAt W A tx) : ToldAt W w' J' (txs ++ [tx]) v := by
  refine ⟨vs ++ [.slice A tx.length c], by rw [List.length_append]; exact hv, fun k t hk => ?_⟩
  rcases Nat.lt_or_ge k txs.length with h1 | h1
  · rw [List.getElem?_append_left h1] at hk
    obtain ⟨B, cb, hy, hb⟩ := h k t hk
    exact ⟨B, cb, by rw [List.getElem?_append_left (by omega)]; exact hy, hb⟩
  · rw [List.getElem?_append_right h1] at hk
    obtain ⟨h2, h3⟩ := List.getElem?_eq_some_iff.1 hk
    have hk' : k = txs.length := by simp at h2; omega
    subst hk'
    simp at h3
    subst h3
    exact ⟨A, c, by rw [← hl]; simp, ht⟩
end
end Go.Proofs.YtlnfeehokpkgiaaDoor.Wal
/- A transaction that the law copies: each record in a block of its own. -/
namespace Go.Proofs.YtlnfeehokpkgiaaDoor.Wal
open Go Go.RowKit Mem Pl Disk Crc _root_.Go.Proofs.YtlnfeehokpkgiaaDoor.Frame
/-- Its blocks. -/
def Blks (JV : Nat → Prop) (gs : Nat → Nat) (n : Nat) (k : Nat) : Prop := JV k ∨ ∃ j, j < n ∧ gs j = k
structure OwnTx (w : World) (JV : Nat → Prop) (lo : Nat) (gs : Nat → Nat) (l : Tx) (vs : List Value) (ov : Value) : Prop where
  vec : Vec w JV 32 1 ov l.length vs
  rows : ∀ (j : Nat) (b : List UInt8), l[j]? = some b → ∃ u, vs[j]? = some u ∧ ByJ w (fun k => k = gs j) b u
  lt : ∀ k, Blks JV gs l.length k → lo ≤ k ∧ k < w.heap.size
  inc : ∀ j j', j < j' → j' < l.length → gs j < gs j'
section
variable {w w1 w2 w' : World} {JV J : Nat → Prop} {lo : Nat} {gs : Nat → Nat} {l : Tx} {vs : List Value} {ov : Value}
theorem OwnTx.nil_ (w : World) (lo : Nat) (A : Option Addr) : OwnTx w (fun _ => False) lo (fun _ => 0) [] [] (.slice A 0 0) :=
  ⟨Vec.nil_ _ _ _ _ _, fun j b h => by simp at h, fun k h => by rcases h with h | ⟨j, h, _⟩ <;> simp at h, fun j j' _ h => by simp at h⟩
theorem OwnTx.tx (x : OwnTx w JV lo gs l vs ov) : TxAt w (Blks JV gs l.length) l ov := by
  refine ⟨vs, x.vec.mono fun g _ h => .inl h, fun k b hb => ?_⟩
  obtain ⟨u, h1, h2⟩ := x.rows k b hb
  exact ⟨u, h1, Vec.mono h2 fun g _ h => .inr ⟨k, (List.getElem?_eq_some_iff.1 hb).1, h.symm⟩⟩
theorem OwnTx.mods (x : OwnTx w JV lo gs l vs ov) (hm : Mods w.heap.size J w w') (hJ : ∀ k, J k → ¬ Blks JV gs l.length k) : OwnTx w' JV lo gs l vs ov :=
  ⟨x.vec.mods hm fun g hg h => ⟨hg, fun hj => hJ g hj (.inl h)⟩, fun j b hb => (x.rows j b hb).imp fun _u h => ⟨h.1, Vec.mods h.2 hm fun g hg e => ⟨hg, fun hj => hJ g hj (.inr ⟨j, (List.getElem?_eq_some_iff.1 hb).1, e.symm⟩)⟩⟩,
    fun k hk => ⟨(x.lt k hk).1, hm.lt (x.lt k hk).2⟩, x.inc⟩
theorem OwnTx.below (x : OwnTx w JV lo gs l vs ov) (hb : Below w.heap.size w w') : OwnTx w' JV lo gs l vs ov := x.mods (Mods.of_below (F := fun _ => False) hb) fun _ h => h.elim
theorem OwnTx.rowsA {A : Option Addr} {n c : Nat} (x : OwnTx w JV lo gs l vs (.slice A n c)) : RowsAt w A l := by
  obtain ⟨A', c', e, h⟩ := x.tx.rows
  injection e with e1 _ _
  rw [e1]
  exact h
/-- What a call owns lies in one block. -/
theorem Vec.of_own1 {base : Nat} {e : TypeId} {size n c : Nat} {A : Option Addr} {xs : List Value} (h : OwnG w base e size A n c xs) : ∃ q, base ≤ q ∧ (q < w.heap.size ∨ q = base) ∧ Vec w (fun k => k = q) e size (.slice A n c) n xs := by
  rcases h.2 with ⟨h1, rfl⟩ | ⟨g, cap, cur, h1, h2, hh, h3⟩
  · injection h1 with _ _ h3
    exact ⟨base, Nat.le_refl _, .inr rfl, A, c, rfl, h.1, .inl ⟨rfl, h3⟩⟩
  · injection h1 with hA _ hc
    subst hA hc
    exact ⟨g, h2, .inl (Array.getElem?_eq_some_iff.1 hh).1, _, _, rfl, h.1, .inr ⟨g, cur, rfl, rfl, hh, h3⟩⟩
/-- One more record. -/
theorem OwnTx.snoc (x : OwnTx w JV lo gs l vs ov) (hlo : lo ≤ w.heap.size) (hb2 : Below w.heap.size w w2) {A3 : Option Addr} {m c3 : Nat} {b : List UInt8} (ho : Own w2 w.heap.size 5 A3 m c3 b) {v' : Value} {row : Option Nat}
    (hv : Vec w' (Grow JV (w2.alloc (.cells #[.slice A3 m c3] 32)) w') 32 1 v' (l.length + 1) (vs ++ [.slice A3 m c3])) (hg : (w2.alloc (.cells #[.slice A3 m c3] 32)).grownBy w' row)
    (hr : row = none ∨ ∃ g cs, row = some g ∧ JV g ∧ (w2.alloc (.cells #[.slice A3 m c3] 32)).heap[g]? = some (Obj.cells cs 32 (0, 0))) :
    ∃ (JV' : Nat → Prop) (gs' : Nat → Nat), OwnTx w' JV' lo gs' (l ++ [b]) (vs ++ [.slice A3 m c3]) v' ∧ (∀ k, Blks JV' gs' (l ++ [b]).length k → Blks JV gs l.length k ∨ w.heap.size ≤ k) ∧ Mods w.heap.size (Blks JV gs l.length) w w' := by
  have hm : b.length = m := ho.len
  have hb3 : Below w.heap.size w (w2.alloc (.cells #[.slice A3 m c3] 32)) := hb2.trans ((below_al' _).mono hb2.size)
  have hmods := mods_grow hb3 hg hr
  obtain ⟨q, hq1, hq2, hvq⟩ := Vec.of_own1 (ho.alloc (.cells #[.slice A3 m c3] 32))
  have hs2 := hb2.size
  have hs3 : w2.heap.size + 1 ≤ w'.heap.size := by have := hg.size; simpa using this
  have hsame : Same (w2.alloc (.cells #[.slice A3 m c3] 32)) w' 5 := Same.grown hg hr (by decide)
  have hvl : vs.length = l.length := by rw [x.vec.len, Nat.mul_one]
  have hq3 : q < w'.heap.size := by
    rcases hq2 with h | h
    · simp at h; omega
    · omega
  refine ⟨Grow JV w w', fun j => if j = l.length then q else gs j, ⟨?_, ?_, ?_, ?_⟩, ?_, hmods.mono (Nat.le_refl _) fun k _ h => .inl h⟩
  · rw [List.length_append]
    exact hv.mono fun g hlt hg => by
      rcases hg with hg | hg
      · exact .inl hg
      · exact .inr ⟨by have := hg.1; simp at this; omega, hlt⟩
  · intro j b' hj
    rcases Nat.lt_or_ge j l.length with h | h
    · rw [List.getElem?_append_left h] at hj
      obtain ⟨u, h1, h2⟩ := x.rows j b' hj
      have hne : j ≠ l.length := by omega
      refine ⟨u, by rw [List.getElem?_append_left (by omega)]; exact h1, ?_⟩
      simp only [if_neg hne]
      exact Vec.heap (Vec.below h2 hb3) hsame
    · rw [List.getElem?_append_right h] at hj
      obtain ⟨h2, h3⟩ := List.getElem?_eq_some_iff.1 hj
      have hk' : j = l.length := by simp at h2; omega
      subst hk'
      simp at h3
      subst h3
      refine ⟨.slice A3 m c3, by rw [← hvl]; simp, ?_⟩
      simp only [if_true]
      show Vec _ _ _ _ _ _ _
      rw [hm]
      exact Vec.heap hvq hsame
  · intro k hk
    rcases hk with hk | ⟨j, hj, rfl⟩
    · rcases hk with hk | hk
      · have := x.lt k (.inl hk); have := hmods.size; omega
      · exact ⟨by omega, hk.2⟩
    · dsimp only
      by_cases he : j = l.length
      · rw [if_pos he]
        exact ⟨by omega, hq3⟩
      · rw [if_neg he]
        simp at hj
        have := x.lt (gs j) (.inr ⟨j, by omega, rfl⟩)
        have := hmods.size
        omega
  · intro j j' hjj hj'
    simp at hj'
    have hne : j ≠ l.length := by omega
    rw [if_neg hne]
    split
    · have := (x.lt (gs j) (.inr ⟨j, by omega, rfl⟩)).2
      omega
    · exact x.inc j j' hjj (by omega)
  · intro k hk
    rcases hk with hk | ⟨j, hj, rfl⟩
    · rcases hk with hk | hk
      · exact .inl (.inl hk)
      · exact .inr hk.1
    · dsimp only
      by_cases he : j = l.length
      · rw [if_pos he]
        exact .inr hq1
      · rw [if_neg he]
        simp at hj
        exact .inl (.inr ⟨j, by omega, rfl⟩)
end
end Go.Proofs.YtlnfeehokpkgiaaDoor.Wal
/- A call of a law's script. -/
namespace Go.Proofs.YtlnfeehokpkgiaaDoor.Wal
open Go Go.RowKit Mem Pl Disk Crc _root_.Go.Proofs.YtlnfeehokpkgiaaDoor.Frame
/-- A call of a script. -/
structure OpW where
  kind : Int
  N : Int
  TA : Option Addr
  tn : Nat
  tc : Nat
  KA : Option Addr
  kn : Nat
  kc : Nat
  tx : Tx
  keep : List Int
def OpW.val (o : OpW) : Array Value := #[.int .i64 o.kind, .int .i64 o.N, .slice o.TA o.tn o.tc, .slice o.KA o.kn o.kc]
structure OpWOk (W : World) (o : OpW) : Prop where
  k : inI o.kind
  i : inI o.N
  rows : RowsAt W o.TA o.tx
  tl : o.tx.length = o.tn
  tm : o.tn ≤ 1000000000
  tot : totM o.tx ≤ 100000000000000
  keep : IAt W o.KA o.keep
  kl : o.keep.length = o.kn
  km : o.kn ≤ 9223372036854775807
structure OpWAt (W : World) (ad : Addr) (o : OpW) : Prop where
  c0 : W.cell? ad = some (.int .i64 o.kind)
  c1 : W.cell? ⟨ad.block, ad.off + 1, none⟩ = some (.int .i64 o.N)
  c2 : W.cell? ⟨ad.block, ad.off + 2, none⟩ = some (.slice o.TA o.tn o.tc)
  c3 : W.cell? ⟨ad.block, ad.off + 3, none⟩ = some (.slice o.KA o.kn o.kc)
def OpsWAt (W : World) (A : Option Addr) (os : List OpW) : Prop := ∀ (i : Nat) (o : OpW), os[i]? = some o → ∃ ad, A = some ad ∧ OpWAt W (ad.add (i * 4)) o ∧ OpWOk W o
end Go.Proofs.YtlnfeehokpkgiaaDoor.Wal
/- A row copied onto an empty one. Over any program. No program's function is walked here. -/
namespace Go.Proofs.YtlnfeehokpkgiaaDoor.Mem
open Go Go.RowKit Pl
section
variable {P : Program} {F F' G : Nat → Prop} {w w' w1 : World} {e : TypeId} {size n : Nat} {v : Value} {xs : List Value}
/-- 'append' onto such a slice; where what comes out lies. -/
theorem run_append_vec2 (t ty : TypeId) (bytes : Nat) (z : Value) (T : ElTy P t e size bytes z) (hv : Vec w F e size v n xs)
    (ad : Addr) (m d : Nat) (news : List Value) (hl : news.length = m * size) (hnews : ∀ j u, news[j]? = some u → w.cell? (ad.add j) = some u) (h1 : ∀ u ∈ news, u.oneCell' = true)
    (hm : n + m ≤ maxLen) (hbytes : (n + m) * bytes ≤ 140737488355328) (hm0 : 0 < m) :
    ∃ v' w' row, (Builtin.append_ #[t, t] ty #[v, .slice (some ad) m d]).run P w = .ok v' w' ∧ Vec w' (Grow F w w') e size v' (n + m) (xs ++ news) ∧ w.grownBy w' row ∧
      (row = none ∨ ∃ g cs, row = some g ∧ F g ∧ w.heap[g]? = some (.cells cs e (0, 0)) ∧ v.ownBlock = some g) ∧ (v'.ownBlock = v.ownBlock ∨ v'.ownBlock = some w.heap.size) := by
  obtain ⟨i, hi, hz, hs, hby⟩ := T.info
  obtain ⟨A, cap, rfl, hlen, ⟨rfl, rfl⟩ | ⟨g, cur, rfl, hf, hh, hnc, hcm, hcs, htk⟩⟩ := hv
  · have hx : xs = [] := List.eq_nil_of_length_eq_zero (by simpa using hlen)
    subst hx
    rcases A with _ | ⟨ad0⟩
    · obtain ⟨v', w', hrun, h2, h3, _, h5⟩ := run_append_own_at (P := P) w w.heap.size t ty e i z size bytes T.ht hi hz hs hby T.hz T.h0 (.slice none 0 0) 0 [] (World.ownsRow_nil w _ e size) ad m d news hl hnews h1 (by omega) (by simpa using hbytes) (Nat.le_refl _)
      have hA : ∃ A' c', v' = .slice A' (0 + m) c' := by
        rcases h2.2 with ⟨h, h0⟩ | ⟨g, cap, cur, h, _⟩
        · exact ⟨none, 0, by rw [h, h0]⟩
        · exact ⟨_, _, h⟩
      obtain ⟨A', c', rfl⟩ := hA
      exact ⟨_, w', none, hrun, Vec.of_own h2 (fun g hg hg' => .inr ⟨hg, hg'⟩), h3, .inl rfl, h5⟩
    · subst hs hby
      have hr := run_append_grow (P := P) w t ty e i z T.ht hi hz ad0 0 0 [] (by simp) (by simp) ad m d news hl hnews (by omega) (by unfold maxLen at hm; omega) (growslice_fits (by omega) (by simpa using hbytes))
      refine ⟨_, _, none, hr, ?_, ⟨rfl, rfl, rfl, by simp, fun k hk _ => Below.heap_alloc w.drew _ k hk⟩, .inl rfl, .inr rfl⟩
      have hge := grownCap_ge w (0 + m) 0 e
      have hcm : grownCap w (0 + m) 0 e ≤ maxLen := grownCap_le_maxLen w (0 + m) 0 e hm
      refine ⟨_, _, rfl, by simpa using hl, .inr ⟨w.heap.size, _, rfl, .inr ⟨Nat.le_refl _, by simp⟩, heap_alloc_new w.drew _, hge, hcm, ?_, ?_⟩⟩
      · simp only [Array.size_append, List.size_toArray, size_zeroCells, T.hz, hl, List.length_nil, Nat.zero_add, ← Nat.add_mul]
        congr 1
        simp only [Nat.zero_add] at hge ⊢
        omega
      · simp only [Array.toList_append, List.nil_append, Nat.zero_add]
        rw [← hl]
        exact List.take_left
  · obtain ⟨v', w', hrun, h2, h3, _, h5⟩ := run_append_own_at (P := P) w (min g w.heap.size) t ty e i z size bytes T.ht hi hz hs hby T.hz T.h0 (.slice (some ⟨g, 0, none⟩) n cap) n xs
      ⟨hlen, .inr ⟨g, cap, cur, rfl, Nat.min_le_left _ _, hh, hnc, hcm, hcs, htk⟩⟩ ad m d news hl hnews h1 hm hbytes (Nat.min_le_right _ _)
    refine ⟨v', w', some g, hrun, ?_, h3, .inr ⟨g, cur, rfl, hf, hh, rfl⟩, h5⟩
    rcases h2.2 with ⟨h, h0⟩ | ⟨g', cap', cur', h, _, hh', hr⟩
    · subst h
      exact ⟨none, 0, by rw [h0], h2.1, .inl ⟨h0, rfl⟩⟩
    · subst h
      refine ⟨_, _, rfl, h2.1, .inr ⟨g', cur', rfl, ?_, hh', hr⟩⟩
      have hlt := (Array.getElem?_eq_some_iff.1 hh').1
      rcases h5 with h5 | h5
      · simp [Value.ownBlock] at h5
        subst h5
        exact .inl hf
      · simp [Value.ownBlock] at h5
        subst h5
        exact .inr ⟨Nat.le_refl _, hlt⟩
end
/-- A row copied onto an empty one. -/
theorem wpList_copy_vec {P : Program} {w : World} {F : Nat → Prop} {e : TypeId} {size n : Nat} {xs : List Value} {ops : Array Oper} {rest : List Oper} {o : Oper} {a : Act} {Q : Exit → Act → World → Prop} (hgd : o.guard = none) (s x : Operand) (t : TypeId)
    (ho : o.op = .call { callee := .builtin .append, args := #[s, x], argTypes := #[t, t] }) (bytes : Nat) (z : Value) (T : ElTy P t e size bytes z)
    (D : Option Addr) (hs : a.eval s = .slice D 0 0) (A : Option Addr) (c : Nat) (hx : a.eval x = .slice A n c) (hv : Vec w F e size (.slice A n c) n xs) (h1 : ∀ u ∈ xs, u.oneCell' = true) (hm : n ≤ maxLen) (hbytes : n * bytes ≤ 140737488355328)
    (h : ∀ (A' : Option Addr) (k' : Nat) (w' : World), Vec w' (New w w') e size (.slice A' n k') n xs → Below w.heap.size w w' → ((Value.slice A' n k').ownBlock = (Value.slice D 0 0).ownBlock ∨ (Value.slice A' n k').ownBlock = some w.heap.size ∧ w.heap.size < w'.heap.size) → wpList P ops Q rest (a.put o.dst (.slice A' n k')) w') : wpList P ops Q (o :: rest) a w :=
  wpList_plain hgd fun _ hK => by
    unfold Oper.wp execOp
    by_cases hn : n = 0
    · subst hn
      have hx0 : xs = [] := List.eq_nil_of_length_eq_zero (by have := hv.len; simpa using this)
      subst hx0
      obtain ⟨i, hi, hz, hsz, hby⟩ := T.info
      have hrun : (Builtin.append_ #[t, t] o.type #[.slice D 0 0, .slice A 0 c]).run P w = .ok (.slice D 0 0) w := by
        cases D <;> cases A <;> simp [Builtin.append_, run_underlying T.ht, sizeOf, typeInfo, hi, Builtin.lenOf, Builtin.firstCells, loadCells, loadCellsFrom, storeCells]
      simp only [ho, resolve, invoke, builtin, Sem.run_bind, Sem.run_pure, Result.andThen_ok, List.map_toArray, List.map_cons, List.map_nil, hs, hx, hrun]
      exact hK _ _ (h D 0 w (Vec.nil_ _ _ _ _ _) (Below.refl _ _) (.inl rfl))
    · obtain ⟨g, cap, cur, he, hf, hh, hnc, hcm, hcs, htk⟩ := hv.form (by omega)
      injection he with hA _ hc
      subst hA hc
      have hnews : ∀ j u, xs[j]? = some u → w.cell? ((⟨g, 0, none⟩ : Addr).add j) = some u := fun j u hu => by
        have := hv.at_ hu
        have e : (Addr.add ⟨g, 0, none⟩ j) = ⟨g, j, none⟩ := by
          unfold Addr.add
          split
          · rename_i h; subst h; rfl
          · simp
        rw [e]
        exact this
      obtain ⟨v', w', row, hrun, h2, h3, h4, h5⟩ := run_append_vec2 (P := P) t o.type bytes z T (Vec.nil_ w (fun _ => False) e size D) ⟨g, 0, none⟩ n c xs (by rw [hv.len]) hnews h1 (by omega) (by simpa using hbytes) (by omega)
      have hrow : row = none := by
        rcases h4 with h4 | ⟨g', cs, _, hf', _⟩
        · exact h4
        · exact hf'.elim
      subst hrow
      rw [Nat.zero_add, List.nil_append] at h2
      obtain ⟨A', k', rfl⟩ := h2.shape
      have hbw : Below w.heap.size w w' := (Below.refl _ _).grown h3 (Nat.le_refl _) fun g hg' => by cases hg'
      simp only [ho, resolve, invoke, builtin, Sem.run_bind, Sem.run_pure, Result.andThen_ok, List.map_toArray, List.map_cons, List.map_nil, hs, hx, hrun]
      refine hK _ _ (h A' k' w' (h2.mono fun g _ hg => ?_) hbw ?_)
      · rcases hg with hg | hg
        · exact hg.elim
        · exact hg
      · rcases h5 with h5 | h5
        · exact .inl h5
        · refine .inr ⟨h5, ?_⟩
          obtain ⟨g2, cap2, cur2, he2, hf2, hh2, _⟩ := h2.form (by omega)
          injection he2 with he2
          subst he2
          injection h5 with h5
          subst h5
          exact (Array.getElem?_eq_some_iff.1 hh2).1
end Go.Proofs.YtlnfeehokpkgiaaDoor.Mem
