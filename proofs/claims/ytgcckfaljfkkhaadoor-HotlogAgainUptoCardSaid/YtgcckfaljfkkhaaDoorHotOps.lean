/- A law's row of calls of the stand; some stand within bounds. -/
import Derived.Test.YtgcckfaljfkkhaaDoorFold30
import Derived.Test.YtgcckfaljfkkhaaDoorHotShown
namespace Go.Proofs.YtgcckfaljfkkhaaDoor.Hot
open Go Go.RowKit Mem Pl Disk Crc _root_.Go.Proofs.YtgcckfaljfkkhaaDoor.Frame
/-- A call of the row. -/
structure OpH where
  kind : Int
  num : Int
  A : Option Addr
  L : Nat
  cap : Nat
  p : Plc
  KA : Option Addr
  kl : Nat
  kc : Nat
  bs : List UInt8
  keep : List Int
def OpH.val (o : OpH) : Array Value := #[.int .i64 o.kind, .int .i64 o.num, .slice o.A o.L o.cap, .int .i64 o.p.dev, .int .i64 o.p.at_, .int .i64 o.p.len, .bool o.p.bad, .slice o.KA o.kl o.kc]
structure OpHOk (W : World) (o : OpH) : Prop where
  kind : inI o.kind
  num : inI o.num
  bs : BAt W o.A o.bs
  len : o.bs.length = o.L
  most : o.L ≤ 140737488355327
  keep : IAt W o.KA o.keep
  klen : o.keep.length = o.kl
  kmost : o.kl ≤ 9223372036854775807
def OpHAt (W : World) (q : Addr) (o : OpH) : Prop :=
  W.cell? q = some (.int .i64 o.kind) ∧ W.cell? ⟨q.block, q.off + 1, none⟩ = some (.int .i64 o.num) ∧ W.cell? ⟨q.block, q.off + 2, none⟩ = some (.slice o.A o.L o.cap) ∧ W.cell? ⟨q.block, q.off + 3, none⟩ = some (.int .i64 o.p.dev) ∧ W.cell? ⟨q.block, q.off + 4, none⟩ = some (.int .i64 o.p.at_) ∧
  W.cell? ⟨q.block, q.off + 5, none⟩ = some (.int .i64 o.p.len) ∧ W.cell? ⟨q.block, q.off + 6, none⟩ = some (.bool o.p.bad) ∧ W.cell? ⟨q.block, q.off + 7, none⟩ = some (.slice o.KA o.kl o.kc)
theorem OpHAt.below {W w : World} {q : Addr} {o : OpH} (h : OpHAt W q o) (hb : Below W.heap.size W w) : OpHAt w q o := by
  obtain ⟨h0, h1, h2, h3, h4, h5, h6, h7⟩ := h
  exact ⟨(hb.cell (cell_lt h0)).trans h0, (hb.cell (cell_lt h1)).trans h1, (hb.cell (cell_lt h2)).trans h2, (hb.cell (cell_lt h3)).trans h3, (hb.cell (cell_lt h4)).trans h4, (hb.cell (cell_lt h5)).trans h5, (hb.cell (cell_lt h6)).trans h6, (hb.cell (cell_lt h7)).trans h7⟩
/-- The row of calls lies there. -/
def OpsHAt (W : World) (A : Option Addr) (os : List OpH) : Prop := ∀ i o, os[i]? = some o → ∃ ad, A = some ad ∧ OpHAt W (ad.add (i * 8)) o ∧ OpHOk W o
theorem bat_block {W : World} {A : Option Addr} {bs : List UInt8} (h : BAt W A bs) (hne : bs ≠ []) : ∀ ad, A = some ad → ad.block < W.heap.size := fun ad hA => by
  have hl : 0 < bs.length := List.length_pos_iff.2 hne
  obtain ⟨ad', h1, h2⟩ := h hl
  rw [hA] at h1
  injection h1 with h1
  subst h1
  have := cell_lt (h2 0 hl)
  rwa [show (ad.add 0).block = ad.block from by unfold Addr.add; split <;> rfl] at this
theorem iat_block {W : World} {A : Option Addr} {zs : List Int} (h : IAt W A zs) (hne : zs ≠ []) : ∀ ad, A = some ad → ad.block < W.heap.size := fun ad hA => by
  rcases h with h | ⟨ad', h1, h2⟩
  · exact absurd h hne
  · rw [hA] at h1
    injection h1 with h1
    subst h1
    obtain ⟨z, r, rfl⟩ : ∃ z r, zs = z :: r := by
      cases zs with
      | nil => exact absurd rfl hne
      | cons z r => exact ⟨z, r, rfl⟩
    have := cell_lt (h2 0 z rfl)
    rwa [show (ad.add 0).block = ad.block from by unfold Addr.add; split <;> rfl] at this
section
variable {B : Nat} {W w w' : World} {s a h r : Nat} {F H G : Nat → Prop} {pm : PM} {m n : Nat} {Hs : List (List UInt8)} {segs : List Nat} {hsed used : List Pc} {bytes : List (List UInt8)} {ever dims : Nat}
/-- What lies below the law's own is beside the stand. -/
theorem StandB.aside (x : StandB B w s a h r F H G pm m n Hs segs hsed used bytes ever dims) {A : Option Addr} (hA : ∀ ad, A = some ad → ad.block < B) : Aside w s F H G A := fun ad h => by
  have h1 := hA ad h
  have h2 := x.hB
  have h3 := x.sB
  exact ⟨by omega, fun hf => by have := (x.hot.st.lt _ hf).1; omega, fun hf => by have := (x.hot.lt _ hf).1; omega, fun hf => by have := (x.lt _ hf).1; omega, by omega⟩
theorem Stood.below {s a r n m ever dims k : Nat} (x : Stood B w s a r n m ever dims k) (hb : Below w.heap.size w w') : Stood B w' s a r n m ever dims k := by
  obtain ⟨h, F, H, G, pm, m', Hs, segs, hsed, used, bytes, ever', dims', y, h1, h2, h3, h4⟩ := x
  exact ⟨h, F, H, G, pm, m', Hs, segs, hsed, used, bytes, ever', dims', y.below hb, h1, h2, h3, h4⟩
theorem Stood.more {s a r n m ever dims k m2 ever2 dims2 k2 : Nat} (x : Stood B w s a r n m ever dims k) (h1 : m ≤ m2) (h2 : ever ≤ ever2) (h3 : dims ≤ dims2) (h4 : k ≤ k2) : Stood B w s a r n m2 ever2 dims2 k2 := by
  obtain ⟨h, F, H, G, pm, m', Hs, segs, hsed, used, bytes, ever', dims', y, g1, g2, g3, g4⟩ := x
  exact ⟨h, F, H, G, pm, m', Hs, segs, hsed, used, bytes, ever', dims', y, by omega, by omega, by omega, by omega⟩
theorem Stood.do_ {s a r n m ever dims k : Nat} (x : Stood W.heap.size w s a r n m ever dims k) (hb : Below W.heap.size W w) (o : OpH) (ho : OpHOk W o) (hk : k ≤ 90000000) (hm : m ≤ 900000000) (hev : ever ≤ 4000000000000000000) (hdi : dims ≤ 4000000000000000000) :
    Calls Tryd.prog 18 #[.pointer (some ⟨s, 0, none⟩), .agg o.val] w fun e w' => e = .returned (.bool true) ∧ Below W.heap.size W w' ∧ Stood W.heap.size w' s a r n (m + 20) (ever + 9) (dims + 1) (k + 1) := by
  obtain ⟨h, F, H, G, pm, m', Hs, segs, hsed, used, bytes, ever', dims', y, g1, g2, g3, g4⟩ := x
  refine (sdo_any y (by omega) (by omega) (by omega) (by omega) o.kind o.num o.A o.L o.cap o.p o.KA o.kl o.kc ho.kind ho.num o.bs (ho.bs.below hb) ho.len ho.most (fun hne => y.aside (bat_block ho.bs hne)) o.keep (ho.keep.below hb) ho.klen (fun hne => y.aside (iat_block ho.keep hne)) ho.kmost).mono ?_
  rintro e w' ⟨he, hb', hz⟩
  exact ⟨he, hb.trans hb', hz.more (by omega) (by omega) (by omega) (by omega)⟩
theorem Stood.all {s a r n m ever dims k : Nat} (x : Stood B w s a r n m ever dims k) (hk : k ≤ 90000000) (hm : m ≤ 900000000) :
    Calls Tryd.prog 20 #[.pointer (some ⟨s, 0, none⟩)] w fun e w' => e = .returned (.bool true) ∧ Below w.heap.size w w' := by
  obtain ⟨h, F, H, G, pm, m', Hs, segs, hsed, used, bytes, ever', dims', y, g1, g2, g3, g4⟩ := x
  exact all_any y (by omega) (by omega)
theorem Stood.cells {s a r n m ever dims k : Nat} (x : Stood B w s a r n m ever dims k) : B ≤ w.heap.size ∧ s < w.heap.size ∧ w.cell? ⟨s, 0, none⟩ = some (.pointer (some ⟨a, 0, none⟩)) ∧
    (∃ ever', ever' ≤ ever ∧ w.cell? ⟨s, 3, none⟩ = some (.int .i64 (ever' : Int))) ∧ ∃ dims', dims' ≤ dims ∧ w.cell? ⟨s, 4, none⟩ = some (.int .i64 (dims' : Int)) := by
  obtain ⟨h, F, H, G, pm, m', Hs, segs, hsed, used, bytes, ever', dims', y, g1, g2, g3, g4⟩ := x
  obtain ⟨c0, _, _, c3, c4⟩ := y.c0
  exact ⟨y.hB, y.blk.lt, c0, ⟨ever', g2, c3⟩, dims', g3, c4⟩
/-- The fuse set. -/
theorem Stood.fuse {s a r n m ever dims k : Nat} (x : Stood B w s a r n m ever dims k) (z : Int) (hz : inI z) :
    Calls Tryd.prog 19 #[.pointer (some ⟨a, 0, none⟩), .int .i64 z] w fun e w' => e = .returned (.tuple #[]) ∧ Below B w w' ∧ Stood B w' s a r n (m + 1) ever dims k := by
  obtain ⟨h, F, H, G, pm, m', Hs, segs, hsed, used, bytes, ever', dims', y, g1, g2, g3, g4⟩ := x
  refine (y.hot.st.setFuse y.hB z hz.2).mono ?_
  rintro e w' ⟨rfl, hg⟩
  refine ⟨rfl, (hg.2.mono y.hB fun _ _ h => h).below fun g hk hf => by have := (y.hot.st.lt g hf).1; omega, h, _, H, G, _, m' + 1, Hs, segs, hsed, used, bytes, ever', dims', y.fused hg, by omega, g2, g3, g4⟩
/-- The power comes back. -/
theorem Stood.boot {s a r n m ever dims k : Nat} (x : Stood B w s a r n m ever dims k) (hm : m ≤ 900000000) (KA : Option Addr) (kl kc : Nat) (keep : List Int) (hk : IAt w KA keep) (hkl : keep.length = kl) (hka : keep ≠ [] → ∀ ad, KA = some ad → ad.block < B) (hkm : kl ≤ 9223372036854775807) :
    Calls Tryd.prog 21 #[.pointer (some ⟨a, 0, none⟩), .slice KA kl kc] w fun e w' => e = .returned (.tuple #[]) ∧ Below B w w' ∧ Stood B w' s a r n (m + 1) ever dims k := by
  obtain ⟨h, F, H, G, pm, m', Hs, segs, hsed, used, bytes, ever', dims', y, g1, g2, g3, g4⟩ := x
  refine (y.hot.st.boot y.hB (by omega) KA kl kc keep hk hkl (fun hne ad hA hf => by have := hka hne ad hA; have := (y.hot.st.lt _ hf).1; omega) hkm).mono ?_
  rintro e w' ⟨rfl, hg⟩
  refine ⟨rfl, (hg.2.mono y.hB fun _ _ h => h).below fun g hk hf => by have := (y.hot.st.lt g hf).1; omega, h, _, H, G, _, m' + 1, _, segs, hsed, used, bytes, ever', dims', y.rebooted hg, by omega, g2, g3, g4⟩
theorem Stood.opened {s a r n m ever dims k : Nat} (x : Stood B w s a r n m ever dims k) (hk : k ≤ 90000000) (hm : m ≤ 900000000) :
    Calls Tryd.prog 22 #[.pointer (some ⟨s, 0, none⟩)] w fun e w' => e = .returned (.bool true) ∧ Below B w w' ∧ Stood B w' s a r n m ever dims k := by
  obtain ⟨h, F, H, G, pm, m', Hs, segs, hsed, used, bytes, ever', dims', y, g1, g2, g3, g4⟩ := x
  refine (opened_any y (by omega) (by omega)).mono ?_
  rintro e w' ⟨rfl, h', H', segs', hsed', hz, _, _, hm'⟩
  have := y.sB
  exact ⟨rfl, (hm'.mono y.hB fun _ _ h => h).below fun g hk e => by omega, h', F, H', G, pm, m', Hs, segs', hsed', used, bytes, ever', dims', hz, g1, g2, g3, g4⟩
end
/-- A stand begun. -/
theorem begun_stood {B : Nat} (w : World) (n : Nat) (h1 : 1 ≤ n) (h4 : n ≤ 4096) (ht : Tabs B w) (hB : B ≤ w.heap.size) :
    Calls Tryd.prog 16 #[.int .i64 (n : Int)] w fun e w' => ∃ s a r, e = .returned (.pointer (some ⟨s, 0, none⟩)) ∧ Stood B w' s a r n 0 0 0 0 ∧ Below w.heap.size w w' := by
  refine (begun_any w n h1 h4 ht hB).mono ?_
  rintro e w' ⟨s, a, h, r, F, H, G, segs, rfl, hz, _, _, hb⟩
  exact ⟨s, a, r, rfl, ⟨h, F, H, G, _, 0, _, segs, _, _, _, 0, 0, hz, Nat.le_refl _, Nat.le_refl _, Nat.le_refl _, Nat.le_refl _⟩, hb⟩
end Go.Proofs.YtgcckfaljfkkhaaDoor.Hot
