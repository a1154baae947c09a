/- The law 'WalLooks'. -/
import Derived.Test.YtlnfeehokpkgiaaDoorFold32
namespace Go.Proofs.YtlnfeehokpkgiaaDoor.Wal
open Go Go.RowKit Mem Pl Disk Crc _root_.Go.Proofs.YtlnfeehokpkgiaaDoor.Frame
theorem inI_wrap (x : Int) : inI (IntKind.i64.wrap x) := by
  rw [IntKind.wrap_i64]
  unfold inI
  omega
theorem ByJ.cut {w : World} {J : Nat → Prop} {b : List UInt8} {A : Option Addr} {n c q : Nat} (h : ByJ w J b (.slice A n c)) (hn : b.length = n) (hq : q ≤ n) : ByJ w J (b.take q) (.slice A q c) := by
  obtain ⟨A', cap, e, hl, hc⟩ := (show Vec w J 5 1 (.slice A n c) b.length (b.map B8) from h)
  injection e with e1 e2 e3
  subst e1 e3
  have hqm : (b.take q).length = q := by rw [List.length_take]; omega
  refine ⟨A, c, by rw [hqm], by simp, ?_⟩
  rw [hqm]
  rcases hc with ⟨h1, h2⟩ | ⟨g, cur, h1, h2, h3, h4, h5, h6, h7⟩
  · exact .inl ⟨by omega, h2⟩
  · refine .inr ⟨g, cur, h1, h2, h3, by omega, h5, h6, ?_⟩
    have h8 := congrArg (List.take q) h7
    rw [List.take_take, Nat.mul_one] at h8
    rw [Nat.mul_one, List.map_take, ← h8, show min q b.length = q by omega]
def LksI (w0 : World) (tv kv : Value) (wr : World) : Prop :=
  ∃ (k : Nat) (tx : Tx) (vs : List Value), kv = .int .i64 (k : Int) ∧ k ≤ 3 ∧ tx.length = 2 * k ∧ totM tx ≤ 128 * k ∧ Vec wr (fun q => w0.heap.size ≤ q ∧ q < wr.heap.size) 32 1 tv (2 * k) vs ∧
    RowsJ wr (fun q => w0.heap.size ≤ q ∧ q < wr.heap.size) tx vs ∧ Below w0.heap.size w0 wr
def LksO (W : World) (a d m : Nat) (iv : Value) (wr : World) : Prop := ∃ i : Nat, iv = .int .i64 (i : Int) ∧ i ≤ 12 ∧ i ≤ m ∧ StdW W wr a d 0 48 (200 + 300 * i) (2 + 4 * i) (10 + 6 * i)
theorem StdW.append {W w : World} {a d dev N n dm Gm : Nat} (x : StdW W w a d dev N n dm Gm) (hn : n ≤ 510000000) (hG : Gm + 6 < 4000000000) (hd : dm ≤ 800000000000) (o : OpW) (ho : OpWOk W o) (hkW : o.keep ≠ [] → ∀ ad, o.KA = some ad → ad.block < W.heap.size) :
    Calls Tryd.prog 25 #[.pointer (some ⟨d, 0, none⟩), .agg #[.int .i64 o.kind, .int .i64 o.N, .slice o.TA o.tn o.tc, .slice o.KA o.kn o.kc]] w fun e w' => e = .returned (.bool true) ∧ StdW W w' a d dev N (n + 40) (dm + 2) (Gm + 3) := by
  obtain ⟨F, K, pm, g, v, txs, dims, H, G, E, nx, h, hk, h1, h2, hl, ht, hgc⟩ := x
  refine (append_any h hl.size (by omega) (by omega) (by omega) hk o (fun w' hm => ?_) ho.tl ho.tm ho.tot (ho.keep.below hl) ho.kl hkW ho.km ht hgc).mono fun e w' hd => StdW.of_done (hd.more (Nat.le_refl _) (by omega) (by omega)) h.st hk hl ht hgc
  refine ho.rows.below (hl.trans ((hm.mono hl.size fun _ _ hf => hf).below fun k hkl hf => ?_))
  rcases hf with hf | hf
  · have := (h.st.lt k hf).1; omega
  · have := (hk k hf).1; omega
/-- Rows of the law's own, appended; ahead of it a fuse may be set. -/
theorem append_own {W w0 w : World} {a d dev N n dm Gm : Nat} (x : StdW W w0 a d dev N n dm Gm) (hn : n ≤ 500000000) (hG : Gm + 6 < 4000000000) (hd : dm ≤ 800000000000) (hb : Below w0.heap.size w0 w) {AT : Option Addr} {cT nt : Nat} {tx : Tx} {vs : List Value} (hv : Vec w (fun q => w0.heap.size ≤ q ∧ q < w.heap.size) 32 1 (.slice AT nt cT) nt vs)
    (hr : RowsJ w (fun q => w0.heap.size ≤ q ∧ q < w.heap.size) tx vs) (hl : tx.length = nt) (hnt : nt ≤ 1000) (htot : totM tx ≤ 100000) (KA : Option Addr) (kn kc : Nat) (keep : List Int) (hk : IAt W KA keep) (hkl : keep.length = kn) (hkm : kn ≤ 9223372036854775807) (hkW : keep ≠ [] → ∀ ad, KA = some ad → ad.block < W.heap.size) :
    (Calls Tryd.prog 25 #[.pointer (some ⟨d, 0, none⟩), .agg #[.int .i64 0, .int .i64 0, .slice AT nt cT, .slice KA kn kc]] w fun e w' => e = .returned (.bool true) ∧ StdW W w' a d dev N (n + 41) (dm + 2) (Gm + 3)) ∧
    ∀ z : Int, z < 9223372036854775808 → Calls Tryd.prog 23 #[.pointer (some ⟨a, 0, none⟩), .int .i64 z] w fun e w2 => e = .returned (.tuple #[]) ∧
      Calls Tryd.prog 25 #[.pointer (some ⟨d, 0, none⟩), .agg #[.int .i64 0, .int .i64 0, .slice AT nt cT, .slice KA kn kc]] w2 fun e w' => e = .returned (.bool true) ∧ StdW W w' a d dev N (n + 41) (dm + 2) (Gm + 3) := by
  obtain ⟨F, K, pm, g, v, txs, dims, H, G, E, nx, h0, hko0, h1, h2, hl0, ht0, hgc⟩ := x
  have hw := hl0.trans (hb.mono hl0.size)
  have h := h0.below hb
  have hko : KOk W.heap.size w F K := fun k hk' => ⟨(hko0 k hk').1, (hko0 k hk').2.1, Nat.lt_of_lt_of_le (hko0 k hk').2.2 hb.size⟩
  have ht := ht0.below hb (Nat.lt_of_lt_of_le hgc hl0.size)
  have htx : TxAt w (fun q => w0.heap.size ≤ q ∧ q < w.heap.size) tx (.slice AT nt cT) := ⟨vs, by rw [hl]; exact hv, hr⟩
  have hrows : ∀ (w1 : World), TxAt w1 (fun q => w0.heap.size ≤ q ∧ q < w.heap.size) tx (.slice AT nt cT) → RowsAt w1 AT tx := fun w1 h => by
    obtain ⟨A', c', e, hr⟩ := h.rows
    injection e with e1 _ _
    rw [e1]
    exact hr
  refine ⟨(append_any h hw.size (by omega) (by omega) (by omega) hko ⟨0, 0, AT, nt, cT, KA, kn, kc, tx, keep⟩ (fun w' hm => hrows _ (htx.mods hm fun q hq hj => ⟨hq, fun hf => ?_⟩)) hl (by dsimp only; omega) (by dsimp only; omega) (hk.below hw) hkl hkW hkm ht hgc).mono fun e w' hd => StdW.of_done (hd.more (by omega) (by omega) (by omega)) h.st hko hw ht hgc, fun z hz => ?_⟩
  · rcases hf with hf | hf
    · have := (h0.st.lt q hf).2; have := hj.1; omega
    · have := (hko0 q hf).2.2; have := hj.1; omega
  · refine (St.setFuse h.st hw.size z hz).mono ?_
    rintro e w2 ⟨he, hs, hm⟩
    have hfe : FrE W.heap.size w F K a pm (n + 1) dev (Grow F w w2) K (pm.setFuse z) w2 := ⟨grow_new, fun _ h => .inl h, hm.mono (Nat.le_refl _) fun _ _ h => .inl h, hs, fun j N H _ hd => (hd.fuse _).1⟩
    have hlow := hfe.lows h.st hko hw.size
    have hk4 := hfe.kok hko
    have hw2 := hw.trans hlow
    have htx2 := htx.mods hm fun q hq hj => ⟨hq, fun hf => by have := (h0.st.lt q hf).2; have := hj.1; omega⟩
    have h4 : Dsk W.heap.size w2 (Grow F w w2) K a (pm.setFuse z) (n + 1) dev N d g v txs (sumM txs) dims H G E nx := ⟨hs, (h.disk.fuse z).1, (h.disk.fuse z).2.trans h.on, h.jr, Blk.mods h.wal hm (Blk.lt h.wal) h.gF, Blk.mods h.desk hm (Blk.lt h.desk) h.dF, hfe.calm h.now, h.gK, h.dK, (hk4 g h.gK).2.1, (hk4 d h.dK).2.1, h.gB, h.dB⟩
    have ht2 := ht.below hlow hgc
    refine ⟨he, (append_any h4 hw2.size (by omega) (by omega) (by omega) hk4 ⟨0, 0, AT, nt, cT, KA, kn, kc, tx, keep⟩ (fun w' hm => hrows _ (htx2.mods hm fun q hq hj => ⟨hq, fun hf => ?_⟩)) hl (by dsimp only; omega) (by dsimp only; omega) (hk.below hw2) hkl hkW hkm ht2 hgc).mono fun e w' hd => StdW.of_done (hd.more (by omega) (by omega) (by omega)) h4.st hk4 hw2 ht2 hgc⟩
    rcases hf with hf | hf
    · rcases grow_new q hf with hf | hf
      · have := (h0.st.lt q hf).2; have := hj.1; omega
      · have := hj.2; omega
    · have := (hko0 q hf).2.2; have := hj.1; omega
/-- A sector is read. -/
theorem StdW.read {W w0 w : World} {a d dev N n dm Gm : Nat} (x : StdW W w0 a d dev N n dm Gm) (hn : n ≤ 800000000) (hb : Below w0.heap.size w0 w) (q : Nat) (hq : q < N) :
    Calls Tryd.prog 26 #[.pointer (some ⟨a, 0, none⟩), .int .i64 (dev : Int), .int .i64 (q : Int)] w fun e w' => ∃ (A : Option Addr) (c : Nat) (b : List UInt8), e = .returned (.tuple #[.slice A 64 c, .int .i64 0]) ∧ Own w' w.heap.size 5 A 64 c b ∧ Below w.heap.size w w' := by
  obtain ⟨F, K, pm, g, v, txs, dims, H, G, E, nx, h0, _⟩ := x
  have h := h0.below hb
  have hr := read_any h.st.at_ h.st.ok (h.st.low (by omega)) (dev : Int) (q : Int)
  rw [h.disk.read h.on hq] at hr
  refine hr.mono ?_
  rintro e w' ⟨A, m, c, he, ho, hbw⟩
  have hl : m = 64 := by
    have h1 := ho.len
    rw [← h1]
    show (lastAt [] q (H.getD q zeros)).length = 64
    have h2 : lastAt [] q (H.getD q zeros) = H.getD q zeros := rfl
    rw [h2, List.getD_eq_getElem?_getD, List.getElem?_eq_getElem (by rw [h.disk.len h.st.ok]; exact hq)]
    exact h.disk.sec h.st.ok _ (List.getElem_mem _)
  subst hl
  exact ⟨A, c, _, he, ho, hbw⟩
set_option maxRecDepth 100000 in
set_option maxHeartbeats 16000000 in
theorem lawWLooks (A0 : Option Addr) (n0 c0 : Nat) (first : Tx) (A1 : Option Addr) (n1 c1 : Nat) (places : List Int) (z : Int) (KA : Option Addr) (kn kc : Nat) (keep : List Int) (W : World) (ht : Tab W) (hgc : 0 < W.heap.size) (h0 : RowsAt W A0 first) (hl0 : first.length = n0) (hn0 : n0 ≤ 1000000000) (ht0 : totM first ≤ 100000000000000)
    (h1 : IAt W A1 places) (hl1 : places.length = n1) (hin1 : ∀ z ∈ places, inI z) (hn1 : n1 ≤ 1048576) (hz : inI z) (hk : IAt W KA keep) (hkl : keep.length = kn) (hkm : kn ≤ 9223372036854775807) (hkW : keep ≠ [] → ∀ ad, KA = some ad → ad.block < W.heap.size) :
    Calls Tryd.prog 8 #[.slice A0 n0 c0, .slice A1 n1 c1, .int .i64 z, .slice KA kn kc] W fun e W' => e = .returned (.bool true) ∧ Below W.heap.size W W' := by
  have HSH := Lib.hid (shown_any W ht hgc)
  have HT := Lib.hid ht
  have H0 := Lib.hid (⟨h0, hl0, ht0⟩ : _ ∧ _ ∧ _)
  have H1 := Lib.hid (⟨h1, hl1, hin1⟩ : _ ∧ _ ∧ _)
  have HK := Lib.hid (⟨hk, hkl, hkW⟩ : _ ∧ _ ∧ _)
  have HZ := Lib.hid hz
  clear ht h0 hl0 ht0 h1 hl1 hin1 hz hk hkl hkW
  go_enter Tryd.func8, Tryd.ntmps8
  go_wp2_with fail
  refine HSH.out.mono ?_
  rintro e w0 ⟨rfl, hb0⟩
  have HB0 := Lib.hid hb0
  have HMD := Lib.hid (made_any w0 1 48 (by omega) (by omega) (by omega) (by omega))
  clear hb0 HSH
  go_wp2_with fail
  refine HMD.out.mono ?_
  rintro e w1 ⟨a, rfl, hp, hb1⟩
  have hb01 := HB0.out.trans (hb1.mono HB0.out.size)
  have HBG := Lib.hid (begun_std (W := W) (St.new hp HB0.out.size (walPM_new (by omega) (by omega) (by omega) (by omega))) (walPM_disk 1 48 0 (by omega)) hb01 (by omega) rfl rfl (by omega) (HT.out.below hb01 hgc) hgc)
  clear hp hb1 hb01 HMD
  go_wp2_with fail
  refine HBG.out.mono ?_
  rintro e w2 ⟨d, rfl, hs2⟩
  have HAF := Lib.hid (hs2.append (by omega) (by omega) (by omega) ⟨0, 0, A0, n0, c0, none, 0, 0, first, []⟩ ⟨by unfold inI; dsimp only; omega, by unfold inI; dsimp only; omega, H0.out.1, H0.out.2.1, hn0, H0.out.2.2, .inl rfl, rfl, by dsimp only; omega⟩ (fun h => absurd rfl h))
  clear hs2 HBG
  go_wp2_with fail
  refine HAF.out.mono ?_
  rintro e w3 ⟨rfl, hs3⟩
  have HS3 := Lib.hid hs3
  clear hs3 HAF
  go_wp2_with fail
  go_loopw [13] (fun iv wr => LksO W a d n1 iv wr) (fun iv _ => 12 - (intOf iv).toNat)
  case atStart => exact ⟨0, rfl, by omega, by omega, HS3.out.more (by omega) (by omega) (by omega)⟩
  case round =>
    obtain ⟨i, rfl, hi, him, hs⟩ := hrel
    have HS := Lib.hid hs
    clear hs
    by_cases hlt : i < n1
    · have hiI : (i : Int) < (n1 : Int) := by omega
      have hiN : decide (i < n1) = true := decide_eq_true hlt
      by_cases h12 : i < 12
      · have hI2 : (i : Int) < 12 := by omega
        go_wp2_with fail
        go_loopw [14, 15] (fun tv kv wi => LksI wr tv kv wi) (fun _ kv _ => 3 - (intOf kv).toNat)
        case atStart => exact ⟨0, [], [], rfl, by omega, rfl, by simp [totM], Vec.nil_ _ _ _ _ _, fun k b h => by simp at h, below_al' _⟩
        case round =>
          obtain ⟨k, tx, vs, rfl, hk, hkl, hkt, hv, hr, hb⟩ := hrel
          obtain ⟨AT, cT, rfl⟩ := hv.shape
          have HV := Lib.hid (⟨hv, hr⟩ : _ ∧ _)
          have HTL := Lib.hid (⟨hkl, hkt⟩ : _ ∧ _)
          have HB := Lib.hid hb
          have hlw := HS.out.low.trans (hb.mono HS.out.low.size)
          have HLW := Lib.hid hlw
          obtain ⟨pl, hpl⟩ : ∃ p, places[i]? = some p := ⟨_, List.getElem?_eq_getElem (by rw [H1.out.2.1]; exact hlt)⟩
          obtain ⟨ad, hA1, hcp⟩ : ∃ ad, A1 = some ad ∧ W.cell? (ad.add i) = some (.int .i64 pl) := by
            rcases H1.out.1 with h | ⟨ad, hA, hc⟩
            · rw [h] at hpl
              cases hpl
            · exact ⟨ad, hA, hc i pl hpl⟩
          have HCP := Lib.hid hcp
          have hipl := H1.out.2.2 pl (List.mem_of_getElem? hpl)
          have x1 := (hlw.cell (cell_lt hcp)).trans hcp
          subst hA1
          clear hv hr hkl hkt hb hlw hcp hpl
          by_cases hk3 : k < 3
          · have hkI : (k : Int) < 3 := by omega
            obtain ⟨s7, hs7⟩ : ∃ s, 7 * k = s := ⟨_, rfl⟩
            have hw7 : IntKind.i64.wrap (7 * (k : Int)) = (s7 : Int) := by rw [show 7 * (k : Int) = (s7 : Int) by omega]; exact IntWalk.i64_in _ (by omega)
            obtain ⟨zz, hzz⟩ : ∃ z, IntKind.i64.wrap (pl + (s7 : Int)) = z := ⟨_, rfl⟩
            have hzi : inI zz := by rw [← hzz]; exact inI_wrap _
            have HW1 := Lib.hid (fun w : World => which_any w zz 48 (by omega) (by omega) hzi)
            have HW2 := Lib.hid (fun w : World => which_any w pl 64 (by omega) (by omega) hipl)
            have hq1 := whichM_lt zz (n := 48) (by omega)
            have hq2 := whichM_lt pl (n := 64) (by omega)
            generalize whichM zz 48 = q1 at *
            generalize whichM pl 64 = q2 at *
            have HRD := Lib.hid (HS.out.read (by omega) HB.out q1 hq1)
            clear hs7
            go_wp2_with fail
            refine (HW1.out _).mono ?_
            rintro e _ ⟨rfl, rfl⟩
            go_wp2_with fail
            refine HRD.out.mono ?_
            rintro e w5 ⟨A5, c5, b5, rfl, ho5, hb5⟩
            have HO5 := Lib.hid ho5
            have HB5 := Lib.hid hb5
            have HV5 := Lib.hid (⟨HV.out.1.below hb5, HV.out.2.below hb5⟩ : _ ∧ _)
            have x5 : w5.cell? (ad.add i) = some (.int .i64 pl) := (hb5.cell (cell_lt x1)).trans x1
            have hcap : 64 ≤ c5 := ho5.cap_le.1
            have hcut := fun W => run_cut_h (P := Tryd.prog) 32 5 Pl.byteTy A5 64 c5 .i64 (q2 : Int) q2 rfl (by omega) W
            clear ho5 hb5 HRD x1 hw7 hzz
            go_wp2_with fail
            refine (HW2.out _).mono ?_
            rintro e _ ⟨rfl, rfl⟩
            have hsz := HB.out.size
            have hsz5 := HB5.out.size
            go_wp2_with
              (at_builtin
               (refine wpList_append_vec rfl (.tmp 70) (.tmp 79) _ rfl 24 _ rowsTy rfl (HV5.out.1.below (below_al' _)) ⟨w5.heap.size, 0, none⟩ 2 2 [.slice A5 64 c5, .slice A5 q2 c5] rfl rfl (blk_news (Blk.new w5 _ _)) (by intro v hv; simp at hv; rcases hv with rfl | rfl <;> rfl) ?c1 ?c2 ?_
                case c1 => unfold maxLen; omega
                case c2 => omega
                intro v6 w6 row hv6 hg6 hr6
                obtain ⟨A6, c6, rfl⟩ := hv6.shape
                have HG6 := Lib.hid (⟨hv6, hg6, hr6⟩ : _ ∧ _ ∧ _)
                clear hv6 hg6 hr6))
            go_roundw
            case rel =>
              obtain ⟨hv6, hg6, hr6⟩ := HG6.out
              have hs6 : w5.heap.size + 1 ≤ w6.heap.size := by have := hg6.size; simpa using this
              have hm6 := mods_grow (below_al' (w := w5) (.cells #[.slice A5 64 c5, .slice A5 q2 c5] 32)) hg6 hr6
              have hrr2 : ∀ S : Nat, S ≤ wr.heap.size → RowsJ w5 (fun q => S ≤ q ∧ q < wr.heap.size) tx vs → RowsJ w6 (fun q => S ≤ q ∧ q < w6.heap.size) (tx ++ [b5] ++ [b5.take q2]) (vs ++ [.slice A5 64 c5] ++ [.slice A5 q2 c5]) := fun S hS hx => by
                have hby : ByJ w5 (fun q => S ≤ q ∧ q < w5.heap.size) b5 (.slice A5 64 c5) := by
                  show Vec _ _ _ _ _ _ _
                  rw [HO5.out.len]
                  exact Vec.of_own HO5.out fun q h1 h2 => ⟨Nat.le_trans hS h1, h2⟩
                have hby2 := ByJ.cut hby HO5.out.len (show q2 ≤ 64 by omega)
                have hrr := (((hx.mono (J' := fun q => S ≤ q ∧ q < w5.heap.size) fun q hq h => ⟨h.1, hq⟩).snoc (by rw [HV5.out.1.len, HTL.out.1, Nat.mul_one]) hby).snoc (by simp [HV5.out.1.len, HTL.out.1]) hby2)
                exact ((hrr.below (below_al' (w := w5) (.cells #[.slice A5 64 c5, .slice A5 q2 c5] 32))).grown hg6 hr6).mono fun q hq h => ⟨h.1, hq⟩
              refine ⟨k + 1, tx ++ [b5] ++ [b5.take q2], vs ++ [.slice A5 64 c5] ++ [.slice A5 q2 c5], by simp, by omega, by simp [HTL.out.1]; omega, ?_, ?_, hrr2 _ hsz HV5.out.2, ?_⟩
              · have h1 := HTL.out.2
                have h2 := HO5.out.len
                unfold totM at *
                simp [h2]
                omega
              · rw [List.append_assoc, show 2 * (k + 1) = 2 * k + 2 by omega]
                exact hv6.mono fun q hlt hq => by
                  rcases hq with hq | hq
                  · exact ⟨hq.1, hlt⟩
                  · exact ⟨by have := hq.1; simp at this; omega, hlt⟩
              · exact (HB.out.trans (HB5.out.mono hsz)).trans ((hm6.mono (by omega) fun _ _ h => h).below fun q hq h => by have := h.1; omega)
            case measure => simp [intOf]; omega
          · obtain rfl : k = 3 := by omega
            have hap := append_own HS.out (by omega) (by omega) (by omega) HB.out (show Vec wr _ _ 1 (.slice AT 6 cT) 6 vs from HV.out.1) HV.out.2 (show tx.length = 6 from HTL.out.1) (by omega) (by have := HTL.out.2; omega) KA kn kc keep HK.out.1 HK.out.2.1 hkm HK.out.2.2
            have HAP := Lib.hid hap
            obtain ⟨nh, hnh⟩ : ∃ r, n1 / 2 = r := ⟨_, rfl⟩
            have hd2 : (n1 : Int) / 2 = (nh : Int) := by omega
            have hd2t : Int.tdiv (n1 : Int) 2 = (nh : Int) := by rw [Int.tdiv_eq_ediv_of_nonneg (by omega)]; exact hd2
            have hwd2 : IntKind.i64.wrap (nh : Int) = (nh : Int) := IntWalk.i64_in _ (by omega)
            obtain ⟨r4, hr4⟩ : ∃ r, i % 4 = r := ⟨_, rfl⟩
            have hm4 : (i : Int) % 4 = (r4 : Int) := by omega
            have hm4t : Int.tmod (i : Int) 4 = (r4 : Int) := by rw [Int.tmod_eq_emod_of_nonneg (by omega)]; exact hm4
            have hwm4 : IntKind.i64.wrap (r4 : Int) = (r4 : Int) := IntWalk.i64_in _ (by omega)
            have hr44 : r4 < 4 := by omega
            clear hap x1 hr4 hnh
            by_cases hmid : i = nh
            · obtain rfl : nh = i := hmid.symm
              have HWF := Lib.hid (fun w : World => which_any w z 9 (by omega) (by omega) HZ.out)
              have hqf := whichM_lt z (n := 9) (by omega)
              generalize whichM z 9 = qf at *
              have HFU := Lib.hid (HAP.out.2 (qf : Int) (by omega))
              go_wp2_with fail
              refine (HWF.out _).mono ?_
              rintro e _ ⟨rfl, rfl⟩
              go_wp2_with fail
              refine HFU.out.mono ?_
              rintro e w6 ⟨rfl, hca⟩
              have HCA := Lib.hid hca
              clear hca HFU HAP
              go_wp2_with fail
              refine HCA.out.mono ?_
              rintro e w7 ⟨rfl, hs7⟩
              have HS7 := Lib.hid hs7
              clear hs7 HCA
              by_cases hr3 : r4 = 3
              · subst hr3
                have HD7 := Lib.hid (HS7.out.do_ (by omega) (by omega) (by omega) ⟨7, 0, none, 0, 0, KA, kn, kc, [], keep⟩ ⟨by unfold inI; dsimp only; omega, by unfold inI; dsimp only; omega, fun i b h => by simp at h, rfl, by dsimp only; omega, by dsimp only [totM]; simp, HK.out.1, HK.out.2.1, hkm⟩ HK.out.2.2)
                go_wp2_with fail
                refine HD7.out.mono ?_
                rintro e w8 ⟨rfl, hs8⟩
                have HS8 := Lib.hid hs8
                clear hs8 HD7
                go_wp2_with fail
                go_roundw
                case rel => exact ⟨nh + 1, by simp, by omega, by omega, HS8.out.more (by omega) (by omega) (by omega)⟩
                case measure => simp [intOf]; omega
              · have hr3B : ((r4 : Int) == 3) = false := by simp; omega
                go_wp2_with fail
                go_roundw
                case rel => exact ⟨nh + 1, by simp, by omega, by omega, HS7.out.more (by omega) (by omega) (by omega)⟩
                case measure => simp [intOf]; omega
            · have hneB : ((i : Int) == (nh : Int)) = false := by simp; omega
              have hneD : decide ((i : Int) = (nh : Int)) = false := by simp; omega
              have hneN : decide (i = nh) = false := decide_eq_false hmid
              go_wp2_with fail
              refine HAP.out.1.mono ?_
              rintro e w7 ⟨rfl, hs7⟩
              have HS7 := Lib.hid hs7
              clear hs7 HAP
              by_cases hr3 : r4 = 3
              · subst hr3
                have HD7 := Lib.hid (HS7.out.do_ (by omega) (by omega) (by omega) ⟨7, 0, none, 0, 0, KA, kn, kc, [], keep⟩ ⟨by unfold inI; dsimp only; omega, by unfold inI; dsimp only; omega, fun i b h => by simp at h, rfl, by dsimp only; omega, by dsimp only [totM]; simp, HK.out.1, HK.out.2.1, hkm⟩ HK.out.2.2)
                go_wp2_with fail
                refine HD7.out.mono ?_
                rintro e w8 ⟨rfl, hs8⟩
                have HS8 := Lib.hid hs8
                clear hs8 HD7
                go_wp2_with fail
                go_roundw
                case rel => exact ⟨i + 1, by simp, by omega, by omega, HS8.out.more (by omega) (by omega) (by omega)⟩
                case measure => simp [intOf]; omega
              · have hr3B : ((r4 : Int) == 3) = false := by simp; omega
                go_wp2_with fail
                go_roundw
                case rel => exact ⟨i + 1, by simp, by omega, by omega, HS7.out.more (by omega) (by omega) (by omega)⟩
                case measure => simp [intOf]; omega
      · have hI2 : ¬ (i : Int) < 12 := by omega
        have HFU := Lib.hid (HS.out.fuse (-1) (by omega))
        go_wp2_with fail
        refine HFU.out.mono ?_
        rintro e w5 ⟨rfl, hs5⟩
        have HBT := Lib.hid (hs5.boot (by omega) KA kn kc keep HK.out.1 HK.out.2.1 HK.out.2.2 hkm)
        clear hs5 HFU
        go_wp2_with fail
        refine HBT.out.mono ?_
        rintro e w6 ⟨rfl, hs6⟩
        obtain ⟨A6, k6, c6, hc6⟩ := hs6.cell
        have HOP := Lib.hid (hs6.opened (by omega) (by omega) (by omega) hc6 none 0 0 [] (.inl rfl) rfl (fun h => absurd rfl h) (by omega))
        clear hs6 HBT
        go_wp2_with fail
        refine HOP.out.mono ?_
        rintro e w7 ⟨rfl, hs7⟩
        have HL7 := Lib.hid hs7.low
        clear hs7 HOP hc6
        go_wp2_with fail
        go_ret
        exact ⟨rfl, HL7.out⟩
    · have hiI : ¬ (i : Int) < (n1 : Int) := by omega
      have HFU := Lib.hid (HS.out.fuse (-1) (by omega))
      go_wp2_with fail
      refine HFU.out.mono ?_
      rintro e w5 ⟨rfl, hs5⟩
      have HBT := Lib.hid (hs5.boot (by omega) KA kn kc keep HK.out.1 HK.out.2.1 HK.out.2.2 hkm)
      clear hs5 HFU
      go_wp2_with fail
      refine HBT.out.mono ?_
      rintro e w6 ⟨rfl, hs6⟩
      obtain ⟨A6, k6, c6, hc6⟩ := hs6.cell
      have HOP := Lib.hid (hs6.opened (by omega) (by omega) (by omega) hc6 none 0 0 [] (.inl rfl) rfl (fun h => absurd rfl h) (by omega))
      clear hs6 HBT
      go_wp2_with fail
      refine HOP.out.mono ?_
      rintro e w7 ⟨rfl, hs7⟩
      have HL7 := Lib.hid hs7.low
      clear hs7 HOP hc6
      go_wp2_with fail
      go_ret
      exact ⟨rfl, HL7.out⟩
end Go.Proofs.YtlnfeehokpkgiaaDoor.Wal
