/- A desk in a law's hands. -/
import Derived.Test.YtlnfeehokpkgiaaDoorWalDo
namespace Go.Proofs.YtlnfeehokpkgiaaDoor.Wal
open Go Go.RowKit Mem Pl Disk Crc _root_.Go.Proofs.YtlnfeehokpkgiaaDoor.Frame
/-- A desk that stands, beside a law's arguments. -/
def StdW (W w : World) (a d dev N n dm Gm : Nat) : Prop :=
  ∃ (F K : Nat → Prop) (pm : PM) (g : Nat) (v : Value) (txs : List Tx) (dims : Nat) (H : List (List UInt8)) (G E nx : Nat), Dsk W.heap.size w F K a pm n dev N d g v txs (sumM txs) dims H G E nx ∧ KOk W.heap.size w F K ∧ G ≤ Gm ∧ dims ≤ dm ∧ Below W.heap.size W w ∧ Tab w ∧ 0 < W.heap.size
section
variable {W w w' : World} {a d dev N n dm Gm : Nat}
theorem StdW.low (x : StdW W w a d dev N n dm Gm) : Below W.heap.size W w := by
  obtain ⟨_, _, _, _, _, _, _, _, _, _, _, _, _, _, _, h, _⟩ := x
  exact h
theorem StdW.below (x : StdW W w a d dev N n dm Gm) (hb : Below w.heap.size w w') : StdW W w' a d dev N n dm Gm := by
  obtain ⟨F, K, pm, g, v, txs, dims, H, G, E, nx, h, hk, h1, h2, hl, ht, hgc⟩ := x
  exact ⟨F, K, pm, g, v, txs, dims, H, G, E, nx, h.below hb, fun k hk' => ⟨(hk k hk').1, (hk k hk').2.1, Nat.lt_of_lt_of_le (hk k hk').2.2 hb.size⟩, h1, h2, hl.trans (hb.mono hl.size), ht.below hb (Nat.lt_of_lt_of_le hgc hl.size), hgc⟩
theorem StdW.of_done {F K : Nat → Prop} {pm : PM} {e : Ending} {n1 : Nat} (h : DoneP W.heap.size w F K a pm n dev N d dm Gm e w') (hst : St W.heap.size w F a pm n1) (hk : KOk W.heap.size w F K) (hl : Below W.heap.size W w) (ht : Tab w) (hgc : 0 < W.heap.size) : e = .returned (.bool true) ∧ StdW W w' a d dev N n dm Gm := by
  obtain ⟨F', K', pm', g, v, txs, dims, H, G, E, nx, he, hf, x, hk', h1, h2⟩ := h
  have hlow := hf.lows hst hk hl.size
  exact ⟨he, F', K', pm', g, v, txs, dims, H, G, E, nx, x, hk', h1, h2, hl.trans hlow, ht.below hlow hgc, hgc⟩
theorem booted {F K : Nat → Prop} {pm : PM} {g : Nat} {v : Value} {txs : List Tx} {dims : Nat} {H : List (List UInt8)} {G E nx : Nat} (h : Dsk W.heap.size w F K a pm n dev N d g v txs (sumM txs) dims H G E nx) (hko : KOk W.heap.size w F K) (h1 : G ≤ Gm) (h2 : dims ≤ dm) (hl : Below W.heap.size W w) (ht : Tab w) (hgc : 0 < W.heap.size)
    (keep : List Int) (hs : St W.heap.size w' (Grow F w w') a (pm.boot keep) (n + 1)) (hm : Mods w.heap.size F w w') : StdW W w' a d dev N (n + 1) dm Gm := by
  have hfe : FrE W.heap.size w F K a pm (n + 1) dev (Grow F w w') K (pm.boot keep) w' := ⟨grow_new, fun _ h => .inl h, hm.mono (Nat.le_refl _) fun _ _ h => .inl h, hs, fun j N H _ hd => by
    obtain ⟨vs, h1, h2⟩ := hd.boot keep
    rw [List.sublist_nil.1 h2] at h1
    exact h1⟩
  have hlow := hfe.lows h.st hko hl.size
  have hk4 := hfe.kok hko
  have hd4 : Disk (pm.boot keep) dev N H [] := by
    obtain ⟨vs, h1, h2⟩ := h.disk.boot keep
    rw [List.sublist_nil.1 h2] at h1
    exact h1
  exact ⟨_, K, _, g, v, txs, dims, H, G, E, nx, ⟨hs, hd4, rfl, h.jr, Blk.mods h.wal hm (Blk.lt h.wal) h.gF, Blk.mods h.desk hm (Blk.lt h.desk) h.dF, hfe.calm h.now, h.gK, h.dK, (hk4 g h.gK).2.1, (hk4 d h.dK).2.1, h.gB, h.dB⟩, hk4, h1, h2, hl.trans hlow, ht.below hlow hgc, hgc⟩
theorem StdW.do_ (x : StdW W w a d dev N n dm Gm) (hn : n ≤ 510000000) (hG : Gm + 6 < 4000000000) (hd : dm ≤ 800000000000) (o : OpW) (ho : OpWOk W o) (hkW : o.keep ≠ [] → ∀ ad, o.KA = some ad → ad.block < W.heap.size) :
    Calls Tryd.prog 22 #[.pointer (some ⟨d, 0, none⟩), .agg #[.int .i64 o.kind, .int .i64 o.N, .slice o.TA o.tn o.tc, .slice o.KA o.kn o.kc]] w fun e w' => e = .returned (.bool true) ∧ StdW W w' a d dev N (n + 4 * N + 50) (dm + 2) (Gm + 3) := by
  obtain ⟨F, K, pm, g, v, txs, dims, H, G, E, nx, h, hk, h1, h2, hl, ht, hgc⟩ := x
  refine (do_any h hl.size hn (by omega) (by omega) hk o ho.k ho.i (fun w' hm => ?_) ho.tl ho.tm ho.tot (ho.keep.below hl) ho.kl hkW ho.km ht hgc).mono fun e w' hd => StdW.of_done (hd.more (Nat.le_refl _) (by omega) (by omega)) h.st hk hl ht hgc
  refine ho.rows.below (hl.trans ((hm.mono hl.size fun _ _ hf => hf).below fun k hkl hf => ?_))
  rcases hf with hf | hf
  · have := (h.st.lt k hf).1; omega
  · have := (hk k hf).1; omega
theorem StdW.fuse (x : StdW W w a d dev N n dm Gm) (z : Int) (hz : z < 9223372036854775808) :
    Calls Tryd.prog 23 #[.pointer (some ⟨a, 0, none⟩), .int .i64 z] w fun e w' => e = .returned (.tuple #[]) ∧ StdW W w' a d dev N (n + 1) dm Gm := by
  obtain ⟨F, K, pm, g, v, txs, dims, H, G, E, nx, h, hk, h1, h2, hl, ht, hgc⟩ := x
  refine (St.setFuse h.st hl.size z hz).mono ?_
  rintro e w' ⟨he, hs, hm⟩
  have hfe : FrE W.heap.size w F K a pm (n + 1) dev (Grow F w w') K (pm.setFuse z) w' := ⟨grow_new, fun _ h => .inl h, hm.mono (Nat.le_refl _) fun _ _ h => .inl h, hs, fun j N H _ hd => (hd.fuse _).1⟩
  have hlow := hfe.lows h.st hk hl.size
  have hk4 := hfe.kok hk
  exact ⟨he, _, K, _, g, v, txs, dims, H, G, E, nx, ⟨hs, (h.disk.fuse z).1, (h.disk.fuse z).2.trans h.on, h.jr, Blk.mods h.wal hm (Blk.lt h.wal) h.gF, Blk.mods h.desk hm (Blk.lt h.desk) h.dF, hfe.calm h.now, h.gK, h.dK, (hk4 g h.gK).2.1, (hk4 d h.dK).2.1, h.gB, h.dB⟩, hk4, h1, h2, hl.trans hlow, ht.below hlow hgc, hgc⟩
theorem StdW.boot (x : StdW W w a d dev N n dm Gm) (hn : n ≤ 800000000) (AK : Option Addr) (nk ck : Nat) (keep : List Int) (hk : IAt W AK keep) (hkl : keep.length = nk) (hkW : keep ≠ [] → ∀ ad, AK = some ad → ad.block < W.heap.size) (hnk : nk ≤ 9223372036854775807) :
    Calls Tryd.prog 17 #[.pointer (some ⟨a, 0, none⟩), .slice AK nk ck] w fun e w' => e = .returned (.tuple #[]) ∧ StdW W w' a d dev N (n + 1) dm Gm := by
  obtain ⟨F, K, pm, g, v, txs, dims, H, G, E, nx, h, hko, h1, h2, hl, ht, hgc⟩ := x
  refine (St.boot h.st hl.size (by omega) AK nk ck keep (hk.below hl) hkl (fun hne ad hA hF => by have h1 := (h.st.lt _ hF).1; have h2 := hkW hne ad hA; omega) hnk).mono ?_
  rintro e w' ⟨he, hs, hm⟩
  exact ⟨he, booted h hko h1 h2 hl ht hgc keep hs hm⟩
/-- A boot with a row of the law's own. -/
theorem StdW.bootNew (x : StdW W w a d dev N n dm Gm) (hn : n ≤ 800000000) (keep : List Int) (hkl : keep.length ≤ 1000) :
    Calls Tryd.prog 17 #[.pointer (some ⟨a, 0, none⟩), .slice (some ⟨w.heap.size, 0, none⟩) keep.length keep.length] (w.alloc (.cells (keep.map intV).toArray 3)) fun e w' => e = .returned (.tuple #[]) ∧ StdW W w' a d dev N (n + 1) dm Gm := by
  obtain ⟨F, K, pm, g, v, txs, dims, H, G, E, nx, h, hko, h1, h2, hl, ht, hgc⟩ := x
  have hb := below_al' (w := w) (.cells (keep.map intV).toArray 3)
  have hl' := hl.trans (hb.mono hl.size)
  refine (St.boot (h.st.below hb) hl'.size (by omega) (some ⟨w.heap.size, 0, none⟩) keep.length keep.length keep (iat_row w keep _ rfl 3) rfl (fun hne ad hA hF => by cases hA; have h1 := (h.st.lt _ hF).2; simp at h1) (by omega)).mono ?_
  rintro e w' ⟨he, hs, hm⟩
  exact ⟨he, booted (h.below hb) (fun k hk' => ⟨(hko k hk').1, (hko k hk').2.1, Nat.lt_of_lt_of_le (hko k hk').2.2 hb.size⟩) h1 h2 hl' (ht.below hb (Nat.lt_of_lt_of_le hgc hl.size)) hgc keep hs hm⟩
/-- The desk's cell that tells. -/
theorem StdW.cell (x : StdW W w a d dev N n dm Gm) : ∃ (A : Option Addr) (k c : Nat), w.cell? ⟨d, 3, none⟩ = some (.slice A k c) := by
  obtain ⟨F, K, pm, g, v, txs, dims, H, G, E, nx, h, _⟩ := x
  obtain ⟨A, c, rfl, _⟩ := h.now.rows
  exact ⟨A, _, c, (Blk.cell h.desk 3).trans rfl⟩
/-- It is opened anew. -/
theorem StdW.opened (x : StdW W w a d dev N n dm Gm) (hn : n ≤ 600000000) (hG : Gm + 6 < 4000000000) (hd : dm ≤ 800000000000) {v : Value} (hc : w.cell? ⟨d, 3, none⟩ = some v) (AK : Option Addr) (nk ck : Nat) (keep : List Int) (hk : IAt W AK keep) (hkl : keep.length = nk) (hkW : keep ≠ [] → ∀ ad, AK = some ad → ad.block < W.heap.size) (hnk : nk ≤ 9223372036854775807) :
    Calls Tryd.prog 24 #[.pointer (some ⟨d, 0, none⟩), .slice AK nk ck, .slice (some ⟨w.heap.size, 0, none⟩) 1 1] (w.alloc (.cells #[v] 38)) fun e w' => e = .returned (.bool true) ∧ StdW W w' a d dev N (n + 8) (dm + 1) (Gm + 2) := by
  obtain ⟨F, K, pm, g, v', txs, dims, H, G, E, nx, h, hko, h1, h2, hl, ht, hgc⟩ := x
  have hv : v = v' := by
    have := (Blk.cell h.desk 3).trans (show _ = some v' from rfl)
    rw [hc] at this
    exact Option.some.inj this
  subst hv
  have hb := below_al' (w := w) (.cells #[v] 38)
  have hko' : KOk W.heap.size (w.alloc (.cells #[v] 38)) F K := fun k hk' => ⟨(hko k hk').1, (hko k hk').2.1, Nat.lt_of_lt_of_le (hko k hk').2.2 hb.size⟩
  have hl' := hl.trans (hb.mono hl.size)
  have ht' := ht.below hb (Nat.lt_of_lt_of_le hgc hl.size)
  refine (opened_any (h.below hb).dsk0 (Nat.le_trans hl.size hb.size) (by omega) (by omega) (by omega) (fun k hk' => ⟨(hko k hk').1, (hko k hk').2.1⟩) AK nk ck keep (hk.below hl') hkl hkW hnk (may_one hl.size (fun k hk' => (h.st.lt k hk').2) (fun k hk' => (hko k hk').2.2) h.now) (by simp) (by simp) ht' hgc).mono fun e w' hz => ?_
  exact StdW.of_done ((hz.done hko').more (Nat.le_refl _) (by omega) (by omega)) (h.st.below hb) hko' hl' ht' hgc
/-- A desk is begun. -/
theorem begun_std {F : Nat → Prop} {pm : PM} {H : List (List UInt8)} {ws : Ws} (hst : St W.heap.size w F a pm n) (hd : Disk pm dev N H ws) (hl : Below W.heap.size W w) (hn : n ≤ 700000000) (hon : pm.off = false) (hfz : pm.fuse = none) (h8 : 8 ≤ N)
    (ht : Tab w) (hgc : 0 < W.heap.size) :
    Calls Tryd.prog 21 #[.pointer (some ⟨a, 0, none⟩), .int .i64 (dev : Int), .int .i64 (N : Int)] w fun e w' => ∃ d, e = .returned (.pointer (some ⟨d, 0, none⟩)) ∧ StdW W w' a d dev N (n + 2 * N + 4) 0 2 := by
  refine (begun_any hst hd hl.size hn hon hfz h8 ht hgc).mono ?_
  rintro e w' ⟨F', pm', d, g, H', he, hf, hd1, hg1, x⟩
  have hfd := hf.desk (K := fun _ => False)
  have hlow := hfd.lows hst (fun _ h => h.elim) hl.size
  refine ⟨d, he, F', _, pm', g, _, [], 0, H', 2, 1, 2, x, fun k hk => ?_, Nat.le_refl _, Nat.le_refl _, hl.trans hlow, ht.below hlow hgc, hgc⟩
  rcases hk with rfl | rfl
  · exact ⟨x.dB, x.dF, Blk.lt x.desk⟩
  · exact ⟨x.gB, x.gF, Blk.lt x.wal⟩
end
end Go.Proofs.YtlnfeehokpkgiaaDoor.Wal
/- The law 'WalKeeps'. -/
namespace Go.Proofs.YtlnfeehokpkgiaaDoor.Wal
open Go Go.RowKit Mem Pl Disk Crc _root_.Go.Proofs.YtlnfeehokpkgiaaDoor.Frame
def KpsR (W : World) (a d N m : Nat) (iv : Value) (wr : World) : Prop := ∃ i : Nat, iv = .int .i64 (i : Int) ∧ i ≤ m ∧ StdW W wr a d 0 N (2 * N + 4 + 482 * i) (2 * i) (2 + 3 * i)
/-- The cells of a call. -/
theorem OpWAt.below {W w : World} {ad : Addr} {o : OpW} (h : OpWAt W ad o) (hb : Below W.heap.size W w) : OpWAt w ad o :=
  ⟨(hb.cell (cell_lt h.c0)).trans h.c0, (hb.cell (cell_lt h.c1)).trans h.c1, (hb.cell (cell_lt h.c2)).trans h.c2, (hb.cell (cell_lt h.c3)).trans h.c3⟩
theorem StdW.more {W w : World} {a d dev N n dm Gm n' dm' Gm' : Nat} (x : StdW W w a d dev N n dm Gm) (hn : n ≤ n') (hd : dm ≤ dm') (hG : Gm ≤ Gm') : StdW W w a d dev N n' dm' Gm' := by
  obtain ⟨F, K, pm, g, v, txs, dims, H, G, E, nx, h, hk, h1, h2, hl⟩ := x
  exact ⟨F, K, pm, g, v, txs, dims, H, G, E, nx, ⟨st_more h.st hn, h.disk, h.on, h.jr, h.wal, h.desk, h.now, h.gK, h.dK, h.gF, h.dF, h.gB, h.dB⟩, hk, by omega, by omega, hl⟩
set_option maxRecDepth 100000 in
set_option maxHeartbeats 16000000 in
theorem lawWKeeps (z : Int) (hz : inI z) (AO : Option Addr) (m cap : Nat) (os : List OpW) (W : World) (ht : Tab W) (hgc : 0 < W.heap.size) (ho : OpsWAt W AO os) (hom : os.length = m) (hm : m ≤ 1048576)
    (hkW : ∀ o ∈ os, o.keep ≠ [] → ∀ ad, o.KA = some ad → ad.block < W.heap.size) :
    Calls Tryd.prog 5 #[.int .i64 z, .slice AO m cap] W fun e W' => e = .returned (.bool true) ∧ Below W.heap.size W W' := by
  have HSH := Lib.hid (shown_any W ht hgc)
  have HT := Lib.hid ht
  have HO := Lib.hid ho
  have HOM := Lib.hid (⟨hom, hkW⟩ : _ ∧ _)
  have HWH := Lib.hid (fun w : World => which_any w z 100 (by omega) (by omega) hz)
  obtain ⟨N, hN⟩ : ∃ r, 8 + whichM z 100 = r := ⟨_, rfl⟩
  have hN2 : 8 ≤ N ∧ N ≤ 107 := by have := whichM_lt z (n := 100) (by omega); omega
  have hwr : IntKind.i64.wrap (8 + (whichM z 100 : Int)) = (N : Int) := by rw [show 8 + (whichM z 100 : Int) = (N : Int) by omega]; exact IntWalk.i64_in _ (by omega)
  clear ht ho hom hN hz hkW
  go_enter Tryd.func5, Tryd.ntmps5
  go_wp2_with fail
  refine HSH.out.mono ?_
  rintro e w0 ⟨rfl, hb0⟩
  have HB0 := Lib.hid hb0
  clear hb0 HSH
  go_wp2_with fail
  refine (HWH.out _).mono ?_
  rintro e _ ⟨rfl, rfl⟩
  have HMD := Lib.hid (made_any w0 1 N (by omega) (by omega) (by omega) (by omega))
  go_wp2_with fail
  refine HMD.out.mono ?_
  rintro e w1 ⟨a, rfl, hp, hb1⟩
  have hb01 := HB0.out.trans (hb1.mono HB0.out.size)
  have HBG := Lib.hid (begun_std (W := W) (St.new hp HB0.out.size (walPM_new (by omega) (by omega) (by omega) (by omega))) (walPM_disk 1 N 0 (by omega)) hb01 (by omega) rfl rfl (by omega) (HT.out.below hb01 hgc) hgc)
  clear hp hb1 hb01 HMD
  go_wp2_with fail
  refine HBG.out.mono ?_
  rintro e w2 ⟨d, rfl, hs2⟩
  have HS2 := Lib.hid hs2
  clear hs2 HBG
  go_wp2_with fail
  go_loopw [9] (fun iv wr => KpsR W a d N m iv wr) (fun iv _ => m - (intOf iv).toNat)
  case atStart => exact ⟨0, rfl, by omega, HS2.out.more (by omega) (by omega) (by omega)⟩
  case round =>
    obtain ⟨i, rfl, hi, hs⟩ := hrel
    have HS := Lib.hid hs
    have HLW := Lib.hid hs.low
    clear hs
    by_cases hlt : i < m
    · have hiI : (i : Int) < (m : Int) := by omega
      have hiN : decide (i < m) = true := decide_eq_true hlt
      obtain ⟨o, hoi⟩ : ∃ o, os[i]? = some o := ⟨_, List.getElem?_eq_getElem (by rw [HOM.out.1]; exact hlt)⟩
      obtain ⟨ad, hA, hcells, hok⟩ := HO.out i o hoi
      obtain ⟨x0, x1, x2, x3⟩ := hcells.below HLW.out
      have HD := Lib.hid (HS.out.do_ (by omega) (by omega) (by omega) o hok (HOM.out.2 o (List.mem_of_getElem? hoi)))
      subst hA
      clear hcells hok hoi
      go_wp2_with fail
      refine HD.out.mono ?_
      rintro e w3 ⟨rfl, hs3⟩
      have HS3 := Lib.hid hs3
      clear hs3 HD x0 x1 x2 x3
      go_wp2_with fail
      go_roundw
      case rel => exact ⟨i + 1, by simp, by omega, HS3.out.more (by omega) (by omega) (by omega)⟩
      case measure => simp [intOf]; omega
    · obtain rfl : m = i := by omega
      have hiI : ¬ (m : Int) < (m : Int) := by omega
      have HFU := Lib.hid (HS.out.fuse (-1) (by omega))
      go_wp2_with fail
      refine HFU.out.mono ?_
      rintro e w3 ⟨rfl, hs3⟩
      have HBT := Lib.hid (hs3.bootNew (by omega) [0] (by simp))
      clear hs3 HFU
      go_wp2_with fail
      refine HBT.out.mono ?_
      rintro e w4 ⟨rfl, hs4⟩
      obtain ⟨A4, k4, c4, hc4⟩ := hs4.cell
      have HOP := Lib.hid (hs4.opened (by omega) (by omega) (by omega) hc4 none 0 0 [] (.inl rfl) rfl (fun h => absurd rfl h) (by omega))
      clear hs4 HBT
      go_wp2_with fail
      refine HOP.out.mono ?_
      rintro e w5 ⟨rfl, hs5⟩
      have HL5 := Lib.hid hs5.low
      clear hs5 HOP hc4
      go_wp2_with fail
      go_ret
      exact ⟨rfl, HL5.out⟩
end Go.Proofs.YtlnfeehokpkgiaaDoor.Wal
