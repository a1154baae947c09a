/- A desk in a law's hands. -/
import Derived.Test.YtlnfeehokpkgiaaDoorWalDo
namespace Go.Proofs.YtlnfeehokpkgiaaDoor.Wal
open Go Go.RowKit Mem Pl Disk Crc _root_.Go.Proofs.YtlnfeehokpkgiaaDoor.Frame
/-- A desk that stands, beside a law's arguments. -/
def StdW (W w : World) (a d dev N n dm Gm : Nat) : Prop :=
  ∃ (F K : Nat → Prop) (pm : PM) (g : Nat) (v : Value) (txs : List Tx) (dims : Nat) (H : List (List UInt8)) (G E nx : Nat), Dsk W.heap.size w F K a pm n dev N d g v txs (sumM txs) dims H G E nx ∧ KOk W.heap.size w F K ∧ G ≤ Gm ∧ dims ≤ dm ∧ Below W.heap.size W w ∧ Tab w ∧ 0 < W.heap.size
section
variable {W w w' : World} {a d dev N n dm Gm : Nat}
theorem StdW.low (x : StdW W w a d dev N n dm Gm) : Below W.heap.size W w := by
  obtain ⟨_, _, _, _, _, _, _, _, _, _, _, _, _, _, _, h, _⟩ := x
  exact h
theorem StdW.below (x : StdW W w a d dev N n dm Gm) (hb : Below w.heap.size w w') : StdW W w' a d dev N n dm Gm := by
  obtain ⟨F, K, pm, g, v, txs, dims, H, G, E, nx, h, hk, h1, h2, hl, ht, hgc⟩ := x
  exact ⟨F, K, pm, g, v, txs, dims, H, G, E, nx, h.below hb, fun k hk' => ⟨(hk k hk').1, (hk k hk').2.1, Nat.lt_of_lt_of_le (hk k hk').2.2 hb.size⟩, h1, h2, hl.trans (hb.mono hl.size), ht.below hb (Nat.lt_of_lt_of_le hgc hl.size), hgc⟩
theorem StdW.of_done {F K : Nat → Prop} {pm : PM} {e : Ending} {n1 : Nat} (h : DoneP W.heap.size w F K a pm n dev N d dm Gm e w') (hst : St W.heap.size w F a pm n1) (hk : KOk W.heap.size w F K) (hl : Below W.heap.size W w) (ht : Tab w) (hgc : 0 < W.heap.size) : e = .returned (.bool true) ∧ StdW W w' a d dev N n dm Gm := by
  obtain ⟨F', K', pm', g, v, txs, dims, H, G, E, nx, he, hf, x, hk', h1, h2⟩ := h
  have hlow := hf.lows hst hk hl.size
  exact ⟨he, F', K', pm', g, v, txs, dims, H, G, E, nx, x, hk', h1, h2, hl.trans hlow, ht.below hlow hgc, hgc⟩
theorem booted {F K : Nat → Prop} {pm : PM} {g : Nat} {v : Value} {txs : List Tx} {dims : Nat} {H : List (List UInt8)} {G E nx : Nat} (h : Dsk W.heap.size w F K a pm n dev N d g v txs (sumM txs) dims H G E nx) (hko : KOk W.heap.size w F K) (h1 : G ≤ Gm) (h2 : dims ≤ dm) (hl : Below W.heap.size W w) (ht : Tab w) (hgc : 0 < W.heap.size)
    (keep : List Int) (hs : St W.heap.size w' (Grow F w w') a (pm.boot keep) (n + 1)) (hm : Mods w.heap.size F w w') : StdW W w' a d dev N (n + 1) dm Gm := by
  have hfe : FrE W.heap.size w F K a pm (n + 1) dev (Grow F w w') K (pm.boot keep) w' := ⟨grow_new, fun _ h => .inl h, hm.mono (Nat.le_refl _) fun _ _ h => .inl h, hs, fun j N H _ hd => by
    obtain ⟨vs, h1, h2⟩ := hd.boot keep
    rw [List.sublist_nil.1 h2] at h1
    exact h1⟩
  have hlow := hfe.lows h.st hko hl.size
  have hk4 := hfe.kok hko
  have hd4 : Disk (pm.boot keep) dev N H [] := by
    obtain ⟨vs, h1, h2⟩ := h.disk.boot keep
    rw [List.sublist_nil.1 h2] at h1
    exact h1
  exact ⟨_, K, _, g, v, txs, dims, H, G, E, nx, ⟨hs, hd4, rfl, h.jr, Blk.mods h.wal hm (Blk.lt h.wal) h.gF, Blk.mods h.desk hm (Blk.lt h.desk) h.dF, hfe.calm h.now, h.gK, h.dK, (hk4 g h.gK).2.1, (hk4 d h.dK).2.1, h.gB, h.dB⟩, hk4, h1, h2, hl.trans hlow, ht.below hlow hgc, hgc⟩
theorem StdW.do_ (x : StdW W w a d dev N n dm Gm) (hn : n ≤ 510000000) (hG : Gm + 6 < 4000000000) (hd : dm ≤ 800000000000) (o : OpW) (ho : OpWOk W o) (hkW : o.keep ≠ [] → ∀ ad, o.KA = some ad → ad.block < W.heap.size) :
    Calls Tryd.prog 22 #[.pointer (some ⟨d, 0, none⟩), .agg #[.int .i64 o.kind, .int .i64 o.N, .slice o.TA o.tn o.tc, .slice o.KA o.kn o.kc]] w fun e w' => e = .returned (.bool true) ∧ StdW W w' a d dev N (n + 4 * N + 50) (dm + 2) (Gm + 3) := by
  obtain ⟨F, K, pm, g, v, txs, dims, H, G, E, nx, h, hk, h1, h2, hl, ht, hgc⟩ := x
  refine (do_any h hl.size hn (by omega) (by omega) hk o ho.k ho.i (fun w' hm => ?_) ho.tl ho.tm ho.tot (ho.keep.below hl) ho.kl hkW ho.km ht hgc).mono fun e w' hd => StdW.of_done (hd.more (Nat.le_refl _) (by omega) (by omega)) h.st hk hl ht hgc
  refine ho.rows.below (hl.trans ((hm.mono hl.size fun _ _ hf => hf).below fun k hkl hf => ?_))
  rcases hf with hf | hf
  · have := (h.st.lt k hf).1; omega
  · have := (hk k hf).1; omega
theorem StdW.fuse (x : StdW W w a d dev N n dm Gm) (z : Int) (hz : z < 9223372036854775808) :
    Calls Tryd.prog 23 #[.pointer (some ⟨a, 0, none⟩), .int .i64 z] w fun e w' => e = .returned (.tuple #[]) ∧ StdW W w' a d dev N (n + 1) dm Gm := by
  obtain ⟨F, K, pm, g, v, txs, dims, H, G, E, nx, h, hk, h1, h2, hl, ht, hgc⟩ := x
  refine (St.setFuse h.st hl.size z hz).mono ?_
  rintro e w' ⟨he, hs, hm⟩
  have hfe : FrE W.heap.size w F K a pm (n + 1) dev (Grow F w w') K (pm.setFuse z) w' := ⟨grow_new, fun _ h => .inl h, hm.mono (Nat.le_refl _) fun _ _ h => .inl h, hs, fun j N H _ hd => (hd.fuse _).1⟩
  have hlow := hfe.lows h.st hk hl.size
  have hk4 := hfe.kok hk
  exact ⟨he, _, K, _, g, v, txs, dims, H, G, E, nx, ⟨hs, (h.disk.fuse z).1, (h.disk.fuse z).2.trans h.on, h.jr, Blk.mods h.wal hm (Blk.lt h.wal) h.gF, Blk.mods h.desk hm (Blk.lt h.desk) h.dF, hfe.calm h.now, h.gK, h.dK, (hk4 g h.gK).2.1, (hk4 d h.dK).2.1, h.gB, h.dB⟩, hk4, h1, h2, hl.trans hlow, ht.below hlow hgc, hgc⟩
theorem StdW.boot (x : StdW W w a d dev N n dm Gm) (hn : n ≤ 800000000) (AK : Option Addr) (nk ck : Nat) (keep : List Int) (hk : IAt W AK keep) (hkl : keep.length = nk) (hkW : keep ≠ [] → ∀ ad, AK = some ad → ad.block < W.heap.size) (hnk : nk ≤ 9223372036854775807) :
    Calls Tryd.prog 17 #[.pointer (some ⟨a, 0, none⟩), .slice AK nk ck] w fun e w' => e = .returned (.tuple #[]) ∧ StdW W w' a d dev N (n + 1) dm Gm := by
  obtain ⟨F, K, pm, g, v, txs, dims, H, G, E, nx, h, hko, h1, h2, hl, ht, hgc⟩ := x
  refine (St.boot h.st hl.size (by omega) AK nk ck keep (hk.below hl) hkl (fun hne ad hA hF => by have h1 := (h.st.lt _ hF).1; have h2 := hkW hne ad hA; omega) hnk).mono ?_
  rintro e w' ⟨he, hs, hm⟩
  exact ⟨he, booted h hko h1 h2 hl ht hgc keep hs hm⟩
/-- A boot with a row of the law's own. -/
theorem StdW.bootNew (x : StdW W w a d dev N n dm Gm) (hn : n ≤ 800000000) (keep : List Int) (hkl : keep.length ≤ 1000) :
    Calls Tryd.prog 17 #[.pointer (some ⟨a, 0, none⟩), .slice (some ⟨w.heap.size, 0, none⟩) keep.length keep.length] (w.alloc (.cells (keep.map intV).toArray 3)) fun e w' => e = .returned (.tuple #[]) ∧ StdW W w' a d dev N (n + 1) dm Gm := by
  obtain ⟨F, K, pm, g, v, txs, dims, H, G, E, nx, h, hko, h1, h2, hl, ht, hgc⟩ := x
  have hb := below_al' (w := w) (.cells (keep.map intV).toArray 3)
  have hl' := hl.trans (hb.mono hl.size)
  refine (St.boot (h.st.below hb) hl'.size (by omega) (some ⟨w.heap.size, 0, none⟩) keep.length keep.length keep (iat_row w keep _ rfl 3) rfl (fun hne ad hA hF => by cases hA; have h1 := (h.st.lt _ hF).2; simp at h1) (by omega)).mono ?_
  rintro e w' ⟨he, hs, hm⟩
  exact ⟨he, booted (h.below hb) (fun k hk' => ⟨(hko k hk').1, (hko k hk').2.1, Nat.lt_of_lt_of_le (hko k hk').2.2 hb.size⟩) h1 h2 hl' (ht.below hb (Nat.lt_of_lt_of_le hgc hl.size)) hgc keep hs hm⟩
/-- The desk's cell that tells. -/
theorem StdW.cell (x : StdW W w a d dev N n dm Gm) : ∃ (A : Option Addr) (k c : Nat), w.cell? ⟨d, 3, none⟩ = some (.slice A k c) := by
  obtain ⟨F, K, pm, g, v, txs, dims, H, G, E, nx, h, _⟩ := x
  obtain ⟨A, c, rfl, _⟩ := h.now.rows
  exact ⟨A, _, c, (Blk.cell h.desk 3).trans rfl⟩
/-- It is opened anew. -/
theorem StdW.opened (x : StdW W w a d dev N n dm Gm) (hn : n ≤ 600000000) (hG : Gm + 6 < 4000000000) (hd : dm ≤ 800000000000) {v : Value} (hc : w.cell? ⟨d, 3, none⟩ = some v) (AK : Option Addr) (nk ck : Nat) (keep : List Int) (hk : IAt W AK keep) (hkl : keep.length = nk) (hkW : keep ≠ [] → ∀ ad, AK = some ad → ad.block < W.heap.size) (hnk : nk ≤ 9223372036854775807) :
    Calls Tryd.prog 24 #[.pointer (some ⟨d, 0, none⟩), .slice AK nk ck, .slice (some ⟨w.heap.size, 0, none⟩) 1 1] (w.alloc (.cells #[v] 38)) fun e w' => e = .returned (.bool true) ∧ StdW W w' a d dev N (n + 8) (dm + 1) (Gm + 2) := by
  obtain ⟨F, K, pm, g, v', txs, dims, H, G, E, nx, h, hko, h1, h2, hl, ht, hgc⟩ := x
  have hv : v = v' := by
    have := (Blk.cell h.desk 3).trans (show _ = some v' from rfl)
    rw [hc] at this
    exact Option.some.inj this
  subst hv
  have hb := below_al' (w := w) (.cells #[v] 38)
  have hko' : KOk W.heap.size (w.alloc (.cells #[v] 38)) F K := fun k hk' => ⟨(hko k hk').1, (hko k hk').2.1, Nat.lt_of_lt_of_le (hko k hk').2.2 hb.size⟩
  have hl' := hl.trans (hb.mono hl.size)
  have ht' := ht.below hb (Nat.lt_of_lt_of_le hgc hl.size)
  refine (opened_any (h.below hb).dsk0 (Nat.le_trans hl.size hb.size) (by omega) (by omega) (by omega) (fun k hk' => ⟨(hko k hk').1, (hko k hk').2.1⟩) AK nk ck keep (hk.below hl') hkl hkW hnk (may_one hl.size (fun k hk' => (h.st.lt k hk').2) (fun k hk' => (hko k hk').2.2) h.now) (by simp) (by simp) ht' hgc).mono fun e w' hz => ?_
  exact StdW.of_done ((hz.done hko').more (Nat.le_refl _) (by omega) (by omega)) (h.st.below hb) hko' hl' ht' hgc
/-- A desk is begun. -/
theorem begun_std {F : Nat → Prop} {pm : PM} {H : List (List UInt8)} {ws : Ws} (hst : St W.heap.size w F a pm n) (hd : Disk pm dev N H ws) (hl : Below W.heap.size W w) (hn : n ≤ 700000000) (hon : pm.off = false) (hfz : pm.fuse = none) (h8 : 8 ≤ N)
    (ht : Tab w) (hgc : 0 < W.heap.size) :
    Calls Tryd.prog 21 #[.pointer (some ⟨a, 0, none⟩), .int .i64 (dev : Int), .int .i64 (N : Int)] w fun e w' => ∃ d, e = .returned (.pointer (some ⟨d, 0, none⟩)) ∧ StdW W w' a d dev N (n + 2 * N + 4) 0 2 := by
  refine (begun_any hst hd hl.size hn hon hfz h8 ht hgc).mono ?_
  rintro e w' ⟨F', pm', d, g, H', he, hf, hd1, hg1, x⟩
  have hfd := hf.desk (K := fun _ => False)
  have hlow := hfd.lows hst (fun _ h => h.elim) hl.size
  refine ⟨d, he, F', _, pm', g, _, [], 0, H', 2, 1, 2, x, fun k hk => ?_, Nat.le_refl _, Nat.le_refl _, hl.trans hlow, ht.below hlow hgc, hgc⟩
  rcases hk with rfl | rfl
  · exact ⟨x.dB, x.dF, Blk.lt x.desk⟩
  · exact ⟨x.gB, x.gF, Blk.lt x.wal⟩
end
end Go.Proofs.YtlnfeehokpkgiaaDoor.Wal
/- The law 'WalKeeps'. -/
namespace Go.Proofs.YtlnfeehokpkgiaaDoor.Wal
open Go Go.RowKit Mem Pl Disk Crc _root_.Go.Proofs.YtlnfeehokpkgiaaDoor.Frame
def KpsR (W : World) (a d N m : Nat) (iv : Value) (wr : World) : Prop := ∃ i : Nat, iv = .int .i64 (i : Int) ∧ i ≤ m ∧ StdW W wr a d 0 N (2 * N + 4 + 482 * i) (2 * i) (2 + 3 * i)
/-- The cells of a call. -/
theorem OpWAt.below {W w : World} {ad : Addr} {o : OpW} (h : OpWAt W ad o) (hb : Below W.heap.size W w) : OpWAt w ad o :=
  ⟨(hb.cell (cell_lt h.c0)).trans h.c0, (hb.cell (cell_lt h.c1)).trans h.c1, (hb.cell (cell_lt h.c2)).trans h.c2, (hb.cell (cell_lt h.c3)).trans h.c3⟩
theorem StdW.more {W w : World} {a d dev N n dm Gm n' dm' Gm' : Nat} (x : StdW W w a d dev N n dm Gm) (hn : n ≤ n') (hd : dm ≤ dm') (hG : Gm ≤ Gm') : StdW W w a d dev N n' dm' Gm' := by
  obtain ⟨F, K, pm, g, v, txs, dims, H, G, E, nx, h, hk, h1, h2, hl⟩ := x
  exact ⟨F, K, pm, g, v, txs, dims, H, G, E, nx, ⟨st_more h.st hn, h.disk, h.on, h.jr, h.wal, h.desk, h.now, h.gK, h.dK, h.gF, h.dF, h.gB, h.dB⟩, hk, by omega, by omega, hl⟩
set_option maxRecDepth 100000 in
set_option maxHeartbeats 16000000 in
theorem lawWKeeps (z : Int) (hz : inI z) (AO : Option Addr) (m cap : Nat) (os : List OpW) (W : World) (ht : Tab W) (hgc : 0 < W.heap.size) (ho : OpsWAt W AO os) (hom : os.length = m) (hm : m ≤ 1048576)
    (hkW : ∀ o ∈ os, o.keep ≠ [] → ∀ ad, o.KA = some ad → ad.block < W.heap.size) :
    Calls Tryd.prog 5 #[.int .i64 z, .slice AO m cap] W fun e W' => e = .returned (.bool true) ∧ Below W.heap.size W W' := by
  have HSH := Lib.hid (shown_any W ht hgc)
  have HT := Lib.hid ht
  have HO := Lib.hid ho
  have HOM := Lib.hid (⟨hom, hkW⟩ : _ ∧ _)
  have HWH := Lib.hid (fun w : World => which_any w z 100 (by omega) (by omega) hz)
  obtain ⟨N, hN⟩ : ∃ r, 8 + whichM z 100 = r := ⟨_, rfl⟩
  have hN2 : 8 ≤ N ∧ N ≤ 107 := by have := whichM_lt z (n := 100) (by omega); omega
  have hwr : IntKind.i64.wrap (8 + (whichM z 100 : Int)) = (N : Int) := by rw [show 8 + (whichM z 100 : Int) = (N : Int) by omega]; exact IntWalk.i64_in _ (by omega)
  clear ht ho hom hN hz hkW
  go_enter Tryd.func5, Tryd.ntmps5
  go_wp2_with fail
  refine HSH.out.mono ?_
  rintro e w0 ⟨rfl, hb0⟩
  have HB0 := Lib.hid hb0
  clear hb0 HSH
  go_wp2_with fail
  refine (HWH.out _).mono ?_
  rintro e _ ⟨rfl, rfl⟩
  have HMD := Lib.hid (made_any w0 1 N (by omega) (by omega) (by omega) (by omega))
  go_wp2_with fail
  refine HMD.out.mono ?_
  rintro e w1 ⟨a, rfl, hp, hb1⟩
  have hb01 := HB0.out.trans (hb1.mono HB0.out.size)
  have HBG := Lib.hid (begun_std (W := W) (St.new hp HB0.out.size (walPM_new (by omega) (by omega) (by omega) (by omega))) (walPM_disk 1 N 0 (by omega)) hb01 (by omega) rfl rfl (by omega) (HT.out.below hb01 hgc) hgc)
  clear hp hb1 hb01 HMD
  go_wp2_with fail
  refine HBG.out.mono ?_
  rintro e w2 ⟨d, rfl, hs2⟩
  have HS2 := Lib.hid hs2
  clear hs2 HBG
  go_wp2_with fail
  go_loopw [9] (fun iv wr => KpsR W a d N m iv wr) (fun iv _ => m - (intOf iv).toNat)
  case atStart => exact ⟨0, rfl, by omega, HS2.out.more (by omega) (by omega) (by omega)⟩
  case round =>
    obtain ⟨i, rfl, hi, hs⟩ := hrel
    have HS := Lib.hid hs
    have HLW := Lib.hid hs.low
    clear hs
    by_cases hlt : i < m
    · have hiI : (i : Int) < (m : Int) := by omega
      have hiN : decide (i < m) = true := decide_eq_true hlt
      obtain ⟨o, hoi⟩ : ∃ o, os[i]? = some o := ⟨_, List.getElem?_eq_getElem (by rw [HOM.out.1]; exact hlt)⟩
      obtain ⟨ad, hA, hcells, hok⟩ := HO.out i o hoi
      obtain ⟨x0, x1, x2, x3⟩ := hcells.below HLW.out
      have HD := Lib.hid (HS.out.do_ (by omega) (by omega) (by omega) o hok (HOM.out.2 o (List.mem_of_getElem? hoi)))
      subst hA
      clear hcells hok hoi
      go_wp2_with fail
      refine HD.out.mono ?_
      rintro e w3 ⟨rfl, hs3⟩
      have HS3 := Lib.hid hs3
      clear hs3 HD x0 x1 x2 x3
      go_wp2_with fail
      go_roundw
      case rel => exact ⟨i + 1, by simp, by omega, HS3.out.more (by omega) (by omega) (by omega)⟩
      case measure => simp [intOf]; omega
    · obtain rfl : m = i := by omega
      have hiI : ¬ (m : Int) < (m : Int) := by omega
      have HFU := Lib.hid (HS.out.fuse (-1) (by omega))
      go_wp2_with fail
      refine HFU.out.mono ?_
      rintro e w3 ⟨rfl, hs3⟩
      have HBT := Lib.hid (hs3.bootNew (by omega) [0] (by simp))
      clear hs3 HFU
      go_wp2_with fail
      refine HBT.out.mono ?_
      rintro e w4 ⟨rfl, hs4⟩
      obtain ⟨A4, k4, c4, hc4⟩ := hs4.cell
      have HOP := Lib.hid (hs4.opened (by omega) (by omega) (by omega) hc4 none 0 0 [] (.inl rfl) rfl (fun h => absurd rfl h) (by omega))
      clear hs4 HBT
      go_wp2_with fail
      refine HOP.out.mono ?_
      rintro e w5 ⟨rfl, hs5⟩
      have HL5 := Lib.hid hs5.low
      clear hs5 HOP hc4
      go_wp2_with fail
      go_ret
      exact ⟨rfl, HL5.out⟩
end Go.Proofs.YtlnfeehokpkgiaaDoor.Wal
/- Two desks on two disks of one plant. -/
namespace Go.Proofs.YtlnfeehokpkgiaaDoor.Wal
open Go Go.RowKit Mem Pl Disk Crc _root_.Go.Proofs.YtlnfeehokpkgiaaDoor.Frame
section
variable {w w' : World} {J : Nat → Prop} {txs : List Tx} {v : Value}
theorem Vec.typed {e : TypeId} {size n : Nat} {xs : List Value} (x : Vec w J e size v n xs) {q : Nat} {cs : Array Value} {t : TypeId} {fz : Nat × Nat} (hq : w.heap[q]? = some (.cells cs t fz)) (ht : t ≠ e) : Vec w (fun k => J k ∧ k ≠ q) e size v n xs := by
  obtain ⟨A, cap, rfl, hl, h | ⟨g, cur, hA, hf, hh, hr⟩⟩ := x
  · exact ⟨A, cap, rfl, hl, .inl h⟩
  · refine ⟨A, cap, rfl, hl, .inr ⟨g, cur, hA, ⟨hf, fun e => ?_⟩, hh, hr⟩⟩
    subst e
    rw [hq] at hh
    injection hh with hh
    injection hh with _ h2
    exact ht h2
theorem TxsAt.avoid (x : TxsAt w J txs v) {q : Nat} {cs : Array Value} {t : TypeId} {fz : Nat × Nat} (hq : w.heap[q]? = some (.cells cs t fz)) (h1 : t ≠ 5) (h2 : t ≠ 32) (h3 : t ≠ 42) : TxsAt w (fun k => J k ∧ k ≠ q) txs v := by
  obtain ⟨vs, hv, hr⟩ := x
  refine ⟨vs, Vec.typed hv hq h3, fun k tx hk => ?_⟩
  obtain ⟨u, hu, us, hvu, hru⟩ := hr k tx hk
  exact ⟨u, hu, us, Vec.typed hvu hq h2, fun k b hb => (hru k b hb).imp fun y h => ⟨h.1, Vec.typed h.2 hq h1⟩⟩
end
/-- The desk's own two blocks. -/
def Two2 (d g : Nat) (k : Nat) : Prop := k = d ∨ k = g
structure DskS (W w : World) (F : Nat → Prop) (a : Nat) (pm : PM) (n dev N d g : Nat) (dm Gm : Nat) : Prop where
  ex : ∃ (v : Value) (txs : List Tx) (dims : Nat) (H : List (List UInt8)) (G E nx : Nat), Dsk W.heap.size w F (Two2 d g) a pm n dev N d g v txs (sumM txs) dims H G E nx ∧ G ≤ Gm ∧ dims ≤ dm
def TwoD (W w : World) (a N dev1 d1 dev2 d2 n dm Gm : Nat) : Prop :=
  ∃ (F : Nat → Prop) (pm : PM) (g1 g2 : Nat), DskS W w F a pm n dev1 N d1 g1 dm Gm ∧ DskS W w F a pm n dev2 N d2 g2 dm Gm ∧ d1 ≠ d2 ∧ g1 ≠ g2 ∧ dev1 ≠ dev2 ∧ Below W.heap.size W w ∧ Tab w ∧ 0 < W.heap.size
section
variable {W w w' : World} {a N dev1 d1 dev2 d2 n n' dm Gm dm' Gm' : Nat}
theorem TwoD.low (x : TwoD W w a N dev1 d1 dev2 d2 n dm Gm) : Below W.heap.size W w := by
  obtain ⟨_, _, _, _, _, _, _, _, _, h, _⟩ := x
  exact h
theorem TwoD.swap (x : TwoD W w a N dev1 d1 dev2 d2 n dm Gm) : TwoD W w a N dev2 d2 dev1 d1 n dm Gm := by
  obtain ⟨F, pm, g1, g2, h1, h2, e1, e2, e3, h3⟩ := x
  exact ⟨F, pm, g2, g1, h2, h1, fun e => e1 e.symm, fun e => e2 e.symm, fun e => e3 e.symm, h3⟩
theorem TwoD.below (x : TwoD W w a N dev1 d1 dev2 d2 n dm Gm) (hb : Below w.heap.size w w') : TwoD W w' a N dev1 d1 dev2 d2 n dm Gm := by
  obtain ⟨F, pm, g1, g2, ⟨v, txs, dims, H, G, E, nx, h1, b1, b2⟩, ⟨v', txs', dims', H', G', E', nx', h2, b3, b4⟩, e1, e2, e3, hl, ht, hgc⟩ := x
  exact ⟨F, pm, g1, g2, ⟨v, txs, dims, H, G, E, nx, h1.below hb, b1, b2⟩, ⟨v', txs', dims', H', G', E', nx', h2.below hb, b3, b4⟩, e1, e2, e3, hl.trans (hb.mono hl.size), ht.below hb (Nat.lt_of_lt_of_le hgc hl.size), hgc⟩
theorem DskS.more {F : Nat → Prop} {pm : PM} {dev d g : Nat} (x : DskS W w F a pm n dev N d g dm Gm) (hn : n ≤ n') (hd : dm ≤ dm') (hG : Gm ≤ Gm') : DskS W w F a pm n' dev N d g dm' Gm' := by
  obtain ⟨v, txs, dims, H, G, E, nx, h, b1, b2⟩ := x
  exact ⟨v, txs, dims, H, G, E, nx, ⟨st_more h.st hn, h.disk, h.on, h.jr, h.wal, h.desk, h.now, h.gK, h.dK, h.gF, h.dF, h.gB, h.dB⟩, by omega, by omega⟩
theorem TwoD.more (x : TwoD W w a N dev1 d1 dev2 d2 n dm Gm) (hn : n ≤ n') (hd : dm ≤ dm') (hG : Gm ≤ Gm') : TwoD W w a N dev1 d1 dev2 d2 n' dm' Gm' := by
  obtain ⟨F, pm, g1, g2, h1, h2, h3⟩ := x
  exact ⟨F, pm, g1, g2, h1.more hn hd hG, h2.more hn hd hG, h3⟩
/-- A block of the one type and one of the other. -/
theorem blk_ne {g d : Nat} {t t' : TypeId} {cs cs' : Array Value} (h1 : Blk w d t cs) (h2 : Blk w g t' cs') (hne : t ≠ t') : d ≠ g := fun e => by
  have h1 : w.heap[d]? = _ := h1
  have h2 : w.heap[g]? = _ := h2
  rw [← e, h1] at h2
  injection h2 with h2
  injection h2 with _ h3
  exact hne h3
theorem kok2 {F K : Nat → Prop} {pm : PM} {dev d g : Nat} {v : Value} {txs : List Tx} {cost dims : Nat} {H : List (List UInt8)} {G E nx : Nat} (h : Dsk W.heap.size w F K a pm n dev N d g v txs cost dims H G E nx) : KOk W.heap.size w F (Two2 d g) := fun k hk => by
  rcases hk with rfl | rfl
  · exact ⟨h.dB, h.dF, Blk.lt h.desk⟩
  · exact ⟨h.gB, h.gF, Blk.lt h.wal⟩
/-- A call of the one desk. -/
theorem TwoD.step {F : Nat → Prop} {pm : PM} {g1 g2 : Nat} {e : Ending} (h1 : DskS W w F a pm n dev1 N d1 g1 dm Gm) (h2 : DskS W w F a pm n dev2 N d2 g2 dm Gm) (e1 : d1 ≠ d2) (e2 : g1 ≠ g2) (e3 : dev1 ≠ dev2) (hl : Below W.heap.size W w) (ht : Tab w) (hgc : 0 < W.heap.size)
    (h : DoneP W.heap.size w F (Two2 d1 g1) a pm n' dev1 N d1 dm' Gm' e w') (hn : n ≤ n') (hd : dm ≤ dm') (hG : Gm ≤ Gm') : e = .returned (.bool true) ∧ TwoD W w' a N dev1 d1 dev2 d2 n' dm' Gm' := by
  obtain ⟨F', K', pm', g', v, txs, dims, H, G, E, nx, he, hf, x, hk', b1, b2⟩ := h
  obtain ⟨v1, txs1, dims1, H1, G1, E1, nx1, y1, _, _⟩ := h1
  obtain ⟨v2, txs2, dims2, H2, G2, E2, nx2, y2, b3, b4⟩ := h2
  have hk1 := kok2 y1
  have hk2 := kok2 y2
  have hlow := hf.lows y1.st hk1 hl.size
  have hdg1 : d2 ≠ g1 := blk_ne y2.desk y1.wal (by decide)
  have hgd : g2 ≠ d1 := blk_ne y2.wal y1.desk (by decide)
  have hx : Dsk W.heap.size w' F' (Two2 d1 g') a pm' n' dev1 N d1 g' v txs (sumM txs) dims H G E nx :=
    ⟨x.st, x.disk, x.on, x.jr, x.wal, x.desk, x.now.mono fun k _ hc => ⟨hc.1, hc.2.1, fun h => hc.2.2 (h.elim (fun e => by rw [e]; exact x.dK) fun e => by rw [e]; exact x.gK)⟩, .inr rfl, .inl rfl, x.gF, x.dF, x.gB, x.dB⟩
  have hg2' : g' ≠ g2 := by
    rcases hf.growK g' x.gK with h | h
    · rcases h with h | h
      · exact absurd h.symm (Dsk.ne x)
      · rw [h]; exact e2
    · have := Blk.lt y2.wal
      omega
  have hnow2 := ((y2.now.avoid y1.desk (by decide) (by decide) (by decide)).avoid y1.wal (by decide) (by decide) (by decide)).mods hf.mods fun k hk hc => ⟨hk, fun h => by
    rcases h with h | h | h
    · exact hc.1.1.2.1 h
    · exact hc.1.2 h
    · exact hc.2 h⟩
  have hF' : ∀ k, k < w.heap.size → ¬ F k → ¬ F' k := fun k hk hn hF => (hf.grow k hF).elim hn fun h => by omega
  have hy : Dsk W.heap.size w' F' (Two2 d2 g2) a pm' n' dev2 N d2 g2 v2 txs2 (sumM txs2) dims2 H2 G2 E2 nx2 :=
    ⟨x.st, hf.els _ _ _ (fun e => e3 e.symm) y2.disk, x.on, y2.jr, Blk.mods y2.wal hf.mods (Blk.lt y2.wal) (fun h => by
      rcases h with h | h | h
      · exact y2.gF h
      · exact hgd h
      · exact e2 h.symm), Blk.mods y2.desk hf.mods (Blk.lt y2.desk) (fun h => by
      rcases h with h | h | h
      · exact y2.dF h
      · exact e1 h.symm
      · exact hdg1 h), TxsAt.mono (w := w') (J := fun k => Calm W.heap.size F (Two2 d2 g2) k ∧ k < w.heap.size) (by
        have h0 := (TxsAt.mono (J' := fun k => ((Calm W.heap.size F (Two2 d2 g2) k ∧ k ≠ d1) ∧ k ≠ g1) ∧ k < w.heap.size) ((y2.now.avoid y1.desk (by decide) (by decide) (by decide)).avoid y1.wal (by decide) (by decide) (by decide)) fun k hk h => ⟨h, hk⟩)
        have h1 := h0.mods hf.mods fun k hk hc => ⟨hk, fun h => by
          rcases h with h | h | h
          · exact hc.1.1.1.2.1 h
          · exact hc.1.1.2 h
          · exact hc.1.2 h⟩
        exact h1.mono fun k _ hc => ⟨hc.1.1.1, hc.2⟩) fun k _ hc => ⟨hc.1.1, hF' k hc.2 hc.1.2.1, hc.1.2.2⟩, .inr rfl, .inl rfl, hF' g2 (Blk.lt y2.wal) y2.gF, hF' d2 (Blk.lt y2.desk) y2.dF, y2.gB, y2.dB⟩
  exact ⟨he, F', pm', g', g2, ⟨v, txs, dims, H, G, E, nx, hx, b1, b2⟩, ⟨v2, txs2, dims2, H2, G2, E2, nx2, hy, by omega, by omega⟩, e1, hg2', e3, hl.trans hlow, ht.below hlow hgc, hgc⟩
theorem TwoD.do_ (x : TwoD W w a N dev1 d1 dev2 d2 n dm Gm) (hn : n ≤ 510000000) (hG : Gm + 6 < 4000000000) (hd : dm ≤ 800000000000) (o : OpW) (ho : OpWOk W o) (hkW : o.keep ≠ [] → ∀ ad, o.KA = some ad → ad.block < W.heap.size) :
    Calls Tryd.prog 22 #[.pointer (some ⟨d1, 0, none⟩), .agg #[.int .i64 o.kind, .int .i64 o.N, .slice o.TA o.tn o.tc, .slice o.KA o.kn o.kc]] w fun e w' => e = .returned (.bool true) ∧ TwoD W w' a N dev1 d1 dev2 d2 (n + 4 * N + 50) (dm + 2) (Gm + 3) := by
  obtain ⟨F, pm, g1, g2, h1, h2, e1, e2, e3, hl, ht, hgc⟩ := x
  have h1' := h1
  obtain ⟨v1, txs1, dims1, H1, G1, E1, nx1, y1, b1, b2⟩ := h1
  refine (do_any y1 hl.size hn (by omega) (by omega) (kok2 y1) o ho.k ho.i (fun w' hm => ?_) ho.tl ho.tm ho.tot (ho.keep.below hl) ho.kl hkW ho.km ht hgc).mono fun e w' hd => TwoD.step h1' h2 e1 e2 e3 hl ht hgc (hd.more (Nat.le_refl _) (by omega) (by omega)) (by omega) (by omega) (by omega)
  refine ho.rows.below (hl.trans ((hm.mono hl.size fun _ _ hf => hf).below fun k hkl hf => ?_))
  rcases hf with hf | hf
  · have := (y1.st.lt k hf).1; omega
  · have := (kok2 y1 k hf).1; omega
theorem TwoD.cell (x : TwoD W w a N dev1 d1 dev2 d2 n dm Gm) : ∃ (A : Option Addr) (k c : Nat), w.cell? ⟨d1, 3, none⟩ = some (.slice A k c) := by
  obtain ⟨F, pm, g1, g2, ⟨v, txs, dims, H, G, E, nx, h, _⟩, _⟩ := x
  obtain ⟨A, c, rfl, _⟩ := h.now.rows
  exact ⟨A, _, c, (Blk.cell h.desk 3).trans rfl⟩
theorem TwoD.opened (x : TwoD W w a N dev1 d1 dev2 d2 n dm Gm) (hn : n ≤ 600000000) (hG : Gm + 6 < 4000000000) (hd : dm ≤ 800000000000) {v : Value} (hc : w.cell? ⟨d1, 3, none⟩ = some v) (AK : Option Addr) (nk ck : Nat) (keep : List Int) (hk : IAt W AK keep) (hkl : keep.length = nk) (hkW : keep ≠ [] → ∀ ad, AK = some ad → ad.block < W.heap.size) (hnk : nk ≤ 9223372036854775807) :
    Calls Tryd.prog 24 #[.pointer (some ⟨d1, 0, none⟩), .slice AK nk ck, .slice (some ⟨w.heap.size, 0, none⟩) 1 1] (w.alloc (.cells #[v] 38)) fun e w' => e = .returned (.bool true) ∧ TwoD W w' a N dev1 d1 dev2 d2 (n + 8) (dm + 1) (Gm + 2) := by
  have hb := below_al' (w := w) (.cells #[v] 38)
  have x' := x.below hb
  obtain ⟨F, pm, g1, g2, ⟨v', txs, dims, H, G, E, nx, h, b1, b2⟩, h2, e1, e2, e3, hl, ht, hgc⟩ := x
  have hv : v = v' := by
    have := (Blk.cell h.desk 3).trans (show _ = some v' from rfl)
    rw [hc] at this
    exact Option.some.inj this
  subst hv
  have h1' : DskS W (w.alloc (.cells #[v] 38)) F a pm n dev1 N d1 g1 dm Gm := ⟨v, txs, dims, H, G, E, nx, h.below hb, b1, b2⟩
  have h2' : DskS W (w.alloc (.cells #[v] 38)) F a pm n dev2 N d2 g2 dm Gm := by
    obtain ⟨v2, txs2, dims2, H2, G2, E2, nx2, y2, b3, b4⟩ := h2
    exact ⟨v2, txs2, dims2, H2, G2, E2, nx2, y2.below hb, b3, b4⟩
  have hl' := hl.trans (hb.mono hl.size)
  have ht' := ht.below hb (Nat.lt_of_lt_of_le hgc hl.size)
  have hko := kok2 h
  refine (opened_any (h.below hb).dsk0 (Nat.le_trans hl.size hb.size) (by omega) (by omega) (by omega) (fun k hk' => ⟨(hko k hk').1, (hko k hk').2.1⟩) AK nk ck keep (hk.below hl') hkl hkW hnk (may_one hl.size (fun k hk' => (h.st.lt k hk').2) (fun k hk' => (hko k hk').2.2) h.now) (by simp) (by simp) ht' hgc).mono fun e w' hz => ?_
  exact TwoD.step h1' h2' e1 e2 e3 hl' ht' hgc ((hz.done (kok2 (h.below hb))).more (Nat.le_refl _) (by omega) (by omega)) (by omega) (by omega) (by omega)
end
end Go.Proofs.YtlnfeehokpkgiaaDoor.Wal
