/- The law 'WalOver': a disk is formatted whatever it had. -/
import Derived.Test.YtlnfeehokpkgiaaDoorWalShown
namespace Go.Proofs.YtlnfeehokpkgiaaDoor.Wal
open Go Go.RowKit Mem Pl Disk Crc _root_.Go.Proofs.YtlnfeehokpkgiaaDoor.Frame
/-- A sector that is written by hand. -/
structure JunkW where
  at_ : Int
  A : Option Addr
  n : Nat
  c : Nat
  bs : List UInt8
structure JunkOk (W : World) (o : JunkW) : Prop where
  i : inI o.at_
  b : BAt W o.A o.bs
  l : o.bs.length = o.n
  nil_ : o.A = none → o.c = 0
structure JunkAt (W : World) (ad : Addr) (o : JunkW) : Prop where
  c0 : W.cell? ad = some (.int .i64 o.at_)
  c1 : W.cell? ⟨ad.block, ad.off + 1, none⟩ = some (.slice o.A o.n o.c)
def JunksAt (W : World) (A : Option Addr) (os : List JunkW) : Prop := ∀ (i : Nat) (o : JunkW), os[i]? = some o → ∃ ad, A = some ad ∧ JunkAt W (ad.add (i * 2)) o ∧ JunkOk W o
def overPM (n : Nat) : PM := { disks := [n], tapes := [9], devs := newDevs [n] [9], waits := [], off := false, fuse := none, steps := 0, now := 0 }
theorem overPM_new {n : Nat} (h1 : 1 ≤ n) (h2 : n ≤ 4096) : newM [(n : Int)] [9] = some (overPM n) := by
  unfold newM overPM
  rw [if_neg]
  · simp
  · simp
    omega
theorem overPM_disk (n : Nat) : Disk (overPM n) 0 n (List.replicate n zeros) [] := ⟨rfl, rfl⟩
def txO : Tx := [[1], [], [2, 3]]
theorem o_long : longM txO = false := by decide +kernel
theorem o_parts : partsM (encM txO) = 1 := by decide +kernel
theorem o_fits {n : Nat} (h : 8 ≤ n) : fitsM n 2 txO = true := by
  unfold fitsM
  rw [o_long, o_parts]
  simp
  omega
theorem below4 (w : World) (x y z u : Obj) : Below w.heap.size w ((((w.alloc x).alloc y).alloc z).alloc u) := (below3 w x y z).trans ((below_al' _).mono (by simp; omega))
def litO (w : World) : World := (((w.alloc (.cells #[.int .u8 1] 5)).alloc (.cells #[] 5)).alloc (.cells #[.int .u8 2, .int .u8 3] 5)).alloc
  (.cells #[.slice (some ⟨w.heap.size, 0, none⟩) 1 1, .slice (some ⟨w.heap.size + 1, 0, none⟩) 0 0, .slice (some ⟨w.heap.size + 1 + 1, 0, none⟩) 2 2] 32)
theorem litO_below (w : World) : Below w.heap.size w (litO w) := below4 _ _ _ _ _
theorem litO_rows (w : World) : RowsAt (litO w) (some ⟨w.heap.size + 1 + 1 + 1, 0, none⟩) txO := by
  refine rows_of (Blk.new_at _ _ (by simp) _ _) fun i b hi => ?_
  have h1 : BAt (w.alloc (.cells #[.int .u8 1] 5)) (some ⟨w.heap.size, 0, none⟩) [1] := BAt.new _ _ _ _ rfl
  have h3 : BAt (((w.alloc (.cells #[.int .u8 1] 5)).alloc (.cells #[] 5)).alloc (.cells #[.int .u8 2, .int .u8 3] 5)) (some ⟨w.heap.size + 1 + 1, 0, none⟩) [2, 3] := BAt.new_at _ _ _ _ _ (by simp) rfl
  rcases i with _ | _ | _ | i
  · simp [txO] at hi
    subst hi
    exact ⟨_, _, rfl, ((h1.below (below_al' _)).below (below_al' _)).below (below_al' _)⟩
  · simp [txO] at hi
    subst hi
    exact ⟨_, _, rfl, BAt.nil_ _ _⟩
  · simp [txO] at hi
    subst hi
    exact ⟨_, _, rfl, h3.below (below_al' _)⟩
  · simp [txO] at hi
theorem litO_txs (w : World) (t : TypeId) : TxRows ((litO w).alloc (.cells #[.slice (some ⟨w.heap.size + 1 + 1 + 1, 0, none⟩) 3 3] t)) (some ⟨w.heap.size + 1 + 1 + 1 + 1, 0, none⟩) [txO] := by
  refine txs_of (Blk.new_at _ _ (by simp [litO]) _ _) fun i b hi => ?_
  rcases i with _ | i
  · simp at hi
    subst hi
    exact ⟨_, _, rfl, (litO_rows w).below (below_al' _)⟩
  · simp at hi
def OvrR (W : World) (a N : Nat) (iv : Value) (wr : World) : Prop :=
  ∃ (i : Nat) (F : Nat → Prop) (pm : PM) (ws : Ws), i ≤ 10000000 ∧ iv = .int .i64 (i : Int) ∧ St W.heap.size wr F a pm i ∧ Disk pm 0 N (List.replicate N zeros) ws ∧ pm.off = false ∧ pm.fuse = none ∧ pm.disks = [N] ∧ Below W.heap.size W wr
set_option maxRecDepth 100000 in
set_option maxHeartbeats 16000000 in
theorem lawOver (z : Int) (hz : inI z) (A1 : Option Addr) (n1 c1 : Nat) (l : List JunkW) (dev : Int) (W : World) (ht : Tab W) (hgc : 0 < W.heap.size) (hj : JunksAt W A1 l) (hl : l.length = n1) (hn1 : n1 ≤ 1100000) :
    Calls Tryd.prog 3 #[.int .i64 z, .slice A1 n1 c1, .int .i64 dev] W fun e W' => e = .returned (.bool true) ∧ Below W.heap.size W W' := by
  have HSH := Lib.hid (shown_any W ht hgc)
  have HT := Lib.hid ht
  have HJ := Lib.hid hj
  have HZ := Lib.hid hz
  have HL := Lib.hid hl
  obtain ⟨N, hN⟩ : ∃ r, 1 + whichM z 40 = r := ⟨_, rfl⟩
  have hN2 : 1 ≤ N ∧ N ≤ 40 := by have := whichM_lt z (n := 40) (by omega); omega
  have hwr : IntKind.i64.wrap (1 + (whichM z 40 : Int)) = (N : Int) := by rw [show 1 + (whichM z 40 : Int) = (N : Int) by omega]; exact IntWalk.i64_in _ (by omega)
  clear ht hj hz hl hN
  go_enter Tryd.func3, Tryd.ntmps3
  go_wp2_with fail
  refine HSH.out.mono ?_
  rintro e w0 ⟨rfl, hb0⟩
  have HB0 := Lib.hid hb0
  have HWH := Lib.hid (which_any w0 z 40 (by omega) (by omega) HZ.out)
  clear hb0 HSH
  go_wp2_with fail
  refine HWH.out.mono ?_
  rintro e _ ⟨rfl, rfl⟩
  have hb1 := below2 w0 (.cells #[.int .i64 (N : Int)] 3) (.cells #[.int .i64 9] 3)
  have hi1 : IAt ((w0.alloc (.cells #[.int .i64 (N : Int)] 3)).alloc (.cells #[.int .i64 9] 3)) (some ⟨w0.heap.size, 0, none⟩) [(N : Int)] := (iat_row w0 [(N : Int)] _ rfl 3).below (below_al' _)
  have hi2 : IAt ((w0.alloc (.cells #[.int .i64 (N : Int)] 3)).alloc (.cells #[.int .i64 9] 3)) (some ⟨w0.heap.size + 1, 0, none⟩) [(9 : Int)] := iat_row _ [(9 : Int)] _ (by simp) 3
  have hnw := new_any _ _ _ 1 1 1 1 _ _ hi1 hi2 rfl rfl (by omega) (by omega)
  rw [overPM_new hN2.1 (by omega)] at hnw
  have HNW := Lib.hid hnw
  have HB1 := Lib.hid (HB0.out.trans (hb1.mono HB0.out.size))
  clear hb1 hi1 hi2 hnw
  go_wp2_with fail
  refine HNW.out.mono ?_
  rintro e w1 ⟨hb1, ⟨h, _⟩ | ⟨a, p, h, rfl, hp⟩⟩
  · cases h
  injection h with h
  subst h
  have HB2 := Lib.hid (HB1.out.trans (hb1.mono HB1.out.size))
  have hst : St W.heap.size w1 _ a (overPM N) 0 := St.new hp HB1.out.size (overPM_new hN2.1 (by omega))
  have HST := Lib.hid hst
  clear hb1 hp hst HNW
  go_wp2_with fail
  go_loopw [11] (fun iv wr => OvrR W a N iv wr) (fun iv _ => n1 - (intOf iv).toNat)
  case atStart => exact ⟨0, _, _, _, by omega, rfl, HST.out, overPM_disk N, rfl, rfl, rfl, HB2.out⟩
  case round =>
    obtain ⟨i, F, pm, ws, hi, rfl, hst, hd, hon, hfu, hdk, hbw⟩ := hrel
    have HST := Lib.hid hst
    have HD := Lib.hid (⟨hd, hon, hfu, hdk⟩ : _ ∧ _ ∧ _ ∧ _)
    have HBW := Lib.hid hbw
    by_cases hlt : i < n1
    · have hltI : (i : Int) < (n1 : Int) := by omega
      have hltN : decide (i < n1) = true := decide_eq_true hlt
      obtain ⟨o, ho⟩ : ∃ o, l[i]? = some o := ⟨_, List.getElem?_eq_getElem (by rw [HL.out]; exact hlt)⟩
      obtain ⟨ad, hA, hja, hjo⟩ := HJ.out i o ho
      have hmk : ∀ W : World, (Instr.makeSlice 32 (.int .i64 64) (.int .i64 64)).run Tryd.prog W = .ok (.slice (some ⟨W.heap.size, 0, none⟩) 64 64) (W.alloc (.cells (zeros.map B8).toArray 5)) := fun W => run_makeCap Pl.byteTy 64 64 (64 : Int) (64 : Int) rfl rfl (Nat.le_refl _) (by omega) W
      have hba := below_al' (w := wr) (.cells (zeros.map B8).toArray 5)
      have HKZ := Lib.hid (Blk.new wr 5 (cellsOf zeros))
      have k1 : (wr.alloc (.cells (zeros.map B8).toArray 5)).cell? ⟨(ad.add (i * 2)).block, (ad.add (i * 2)).off + 1, none⟩ = some (.slice o.A o.n o.c) := ((hbw.trans (hba.mono hbw.size)).cell (cell_lt hja.c1)).trans hja.c1
      have HJA := Lib.hid hja
      have HJO := Lib.hid hjo
      have HBA := Lib.hid hba
      have HBO := Lib.hid ((hjo.b.below hbw).below hba)
      subst hA
      clear hst hd hon hfu hdk hbw hja hjo hba ho
      go_wp2_with
        (refine wpList_copy_bytes rfl (.tmp 45) (.tmp 50) _ rfl _ Pl.byteTy wr.heap.size 0 64 64 _ zeros rfl HKZ.out o.A o.n o.c o.bs rfl HBO.out HJO.out.l (Nat.min o.n 64) rfl (by rw [zeros_len, Nat.zero_add]; exact Nat.min_le_right _ _) HJO.out.nil_ ?_
         intro w3 hk3 hg3 hz3
         have HG3 := Lib.hid hg3
         have hb3 : Below wr.heap.size wr w3 := HBA.out.grown HG3.out (by simp) (fun g hg => by injection hg with hg; omega)
         have hb03 := HBW.out.trans (hb3.mono HBW.out.size)
         have k0 : w3.cell? (ad.add (i * 2)) = some (.int .i64 o.at_) := (hb03.cell (cell_lt HJA.out.c0)).trans HJA.out.c0
         have HK3 := Lib.hid hk3
         have HB3 := Lib.hid hb3
         have HB03 := Lib.hid hb03
         clear hk3 hg3 hz3 hb3 hb03 k1)
      have hwh := which_any w3 o.at_ N (by omega) (by omega) HJO.out.i
      have hlk : whichM o.at_ N < N := whichM_lt _ (by omega)
      generalize whichM o.at_ N = q at *
      obtain ⟨b, hb⟩ : ∃ b, List.take 0 zeros ++ List.take (Nat.min o.n 64) o.bs ++ List.drop (0 + Nat.min o.n 64) zeros = b := ⟨_, rfl⟩
      have hbl : b.length = 64 := by
        have h1 := HJO.out.l
        have h2 : Nat.min o.n 64 ≤ 64 := Nat.min_le_right _ _
        have h3 : Nat.min o.n 64 ≤ o.n := Nat.min_le_left _ _
        rw [← hb]
        generalize Nat.min o.n 64 = kk at h2 h3
        rw [List.length_append, List.length_append, List.length_take, List.length_take, List.length_drop, zeros_len, h1]
        omega
      have hbt : BAt w3 (some ⟨wr.heap.size, 0, none⟩) b := by
        have := HK3.out
        rw [hb] at this
        exact BAt.of_bytes this rfl
      have hw := (HST.out.below HB3.out).write HB03.out.size (by omega) 0 (q : Int) (some ⟨wr.heap.size, 0, none⟩) 64 64 b hbt hbl
      rw [show (0 : Int) = ((0 : Nat) : Int) from rfl, write_on HD.out.1 HD.out.2.1 (by rw [HD.out.2.2.1]; simp) hlk hbl] at hw
      have HW := Lib.hid hw
      have HWH := Lib.hid hwh
      clear hwh hb hbl hbt hw hmk
      refine HWH.out.mono ?_
      rintro e _ ⟨rfl, rfl⟩
      go_wp2_with fail
      refine HW.out.mono ?_
      rintro e w4 ⟨rfl, hs4, hm4⟩
      have HS4 := Lib.hid hs4
      have HB4 := Lib.hid ((HST.out.below HB3.out).bel HB03.out HB03.out.size hm4)
      clear hs4 hm4 HW
      go_wp2_with fail
      go_roundw
      case rel => exact ⟨i + 1, _, _, _, by omega, by simp, HS4.out, HD.out.1.wrote rfl rfl, HD.out.2.1, by show pred pm.fuse = none; rw [HD.out.2.2.1]; rfl, HD.out.2.2.2, HB4.out⟩
      case measure => simp [intOf]; omega
    · have hltI : ¬ (i : Int) < (n1 : Int) := by omega
      by_cases hdev : dev = 0
      · subst hdev
        by_cases h8 : N < 8
        · have h8I : (N : Int) < 8 := by omega
          have HFM := Lib.hid (format_small hst hd (by omega) h8)
          clear hst hd hon hfu hdk hbw
          go_wp2_with fail
          refine HFM.out.mono ?_
          rintro e w3 ⟨rfl, hb3⟩
          have HB3 := Lib.hid (HBW.out.trans (hb3.mono HBW.out.size))
          have HOP := Lib.hid (open_small (HST.out.below hb3) HD.out.1 (by omega) h8)
          clear hb3 HFM
          go_wp2_with fail
          refine HOP.out.mono ?_
          rintro e w4 ⟨rfl, hb4⟩
          have HB4 := Lib.hid (HB3.out.trans (hb4.mono HB3.out.size))
          clear hb4 HOP
          go_wp2_with fail
          go_ret
          exact ⟨rfl, HB4.out⟩
        · have h8I : ¬ (N : Int) < 8 := by omega
          have h8J : (8 : Int) ≤ (N : Int) := by omega
          have HFM := Lib.hid (onz_format (K := fun _ => False) hst hd hon hfu (fun _ h => h.elim) hbw.size (HT.out.below hbw hgc) hgc (by omega) (by omega))
          clear hst hd hon hfu hdk hbw
          go_wp2_with fail
          refine HFM.out.mono ?_
          rintro e w3 ⟨F3, pm3, rfl, hf3, x3⟩
          have HB3 := Lib.hid (HBW.out.trans (hf3.lows HST.out (fun _ h => h.elim) HBW.out.size))
          have HX3 := Lib.hid x3
          have HOP := Lib.hid (x3.open_ (by omega) (by omega))
          clear hf3 x3 HFM
          go_wp2_with fail
          refine HOP.out.mono ?_
          rintro e w4 ⟨F4, pm4, H4, g4, A4, c4, rfl, hf4, x4, hw4, _, _⟩
          have HB4 := Lib.hid (HB3.out.trans (hf4.lows HX3.out.st HX3.out.kok HX3.out.size))
          have HX4 := Lib.hid x4
          have HW4 := Lib.hid hw4
          clear hf4 x4 hw4 HOP
          go_wp2_with fail
          have hap := (HX4.out.below (litO_below w4)).append (by omega) (HW4.out.below (litO_below w4)) (.inr rfl) (nt := 3) (c := 3) (litO_rows w4) rfl (by omega) (by decide)
          refine hap.mono ?_
          rintro e w5 h
          obtain ⟨rfl, F5, pm5, H5, hf5, x5, _⟩ := (ApdZ.of_below h (litO_below w4)).fits (o_fits (by omega)) (show 2 + partsM (encM txO) = 3 by rw [o_parts])
          have HB5 := Lib.hid (HB4.out.trans (hf5.lows HX4.out.st HX4.out.kok HX4.out.size))
          have HX5 := Lib.hid x5
          have HBT := Lib.hid (x5.boot (by omega) none 0 0 [] (.inl rfl) rfl (fun h => absurd rfl h) (by omega))
          clear h hap hf5 x5
          go_wp2_with fail
          refine HBT.out.mono ?_
          rintro e w6 ⟨F6, pm6, rfl, hf6, x6⟩
          have HB6 := Lib.hid (HB5.out.trans (hf6.lows HX5.out.st HX5.out.kok HX5.out.size))
          have HX6 := Lib.hid x6
          have HOP := Lib.hid (x6.open_ (by omega) (by omega))
          clear hf6 x6 HBT
          go_wp2_with fail
          refine HOP.out.mono ?_
          rintro e w7 ⟨F7, pm7, H7, g7, A7, c7, rfl, hf7, x7, _, ht7, _⟩
          have HB7 := Lib.hid (HB6.out.trans (hf7.lows HX6.out.st HX6.out.kok HX6.out.size))
          have hb8 := (litO_below w7).trans ((below_al' (w := litO w7) (.cells #[.slice (some ⟨w7.heap.size + 1 + 1 + 1, 0, none⟩) 3 3] 42)).mono (litO_below w7).size)
          have hsm : Calls Tryd.prog 18 #[.slice A7 1 c7, .slice (some ⟨w7.heap.size + 1 + 1 + 1 + 1, 0, none⟩) 1 1] ((litO w7).alloc (.cells #[.slice (some ⟨w7.heap.size + 1 + 1 + 1, 0, none⟩) 3 3] 42)) fun e w' => e = .returned (.bool true) ∧ Below w7.heap.size w7 w' := by
            obtain ⟨A', c', e8, h1⟩ := (ht7.below hb8).rows
            injection e8 with e81 _ _
            rw [← e81] at h1
            refine (same_any _ A7 _ 1 c7 1 1 _ [txO] h1 (litO_txs w7 _) rfl rfl (by omega) (by decide)).mono ?_
            rintro e w' ⟨h1, h2⟩
            exact ⟨h1.trans (by rw [decide_eq_true (by rfl)]), hb8.trans (h2.mono hb8.size)⟩
          have HSM := Lib.hid hsm
          clear hf7 x7 ht7 hb8 hsm HOP
          go_wp2_with fail
          refine HSM.out.mono ?_
          rintro e w8 ⟨rfl, hb8⟩
          have HB8 := Lib.hid (HB7.out.trans (hb8.mono HB7.out.size))
          clear hb8 HSM
          go_wp2_with fail
          go_ret
          exact ⟨rfl, HB8.out⟩
      · have hdI : (dev == 0) = false := by simpa using hdev
        have hno : ¬ (0 ≤ dev ∧ dev < (pm.disks.length : Int)) := by rw [hdk]; simp; omega
        have HFM := Lib.hid (format_no hst.at_ hst.ok dev hno)
        have HNO := Lib.hid hno
        clear hst hd hon hfu hdk hbw hno
        go_wp2_with fail
        refine HFM.out.mono ?_
        rintro e w3 ⟨rfl, hb3⟩
        have HB3 := Lib.hid (HBW.out.trans (hb3.mono HBW.out.size))
        have HOP := Lib.hid (open_no (HST.out.below hb3).at_ HST.out.ok dev HNO.out)
        clear hb3 HFM
        go_wp2_with fail
        refine HOP.out.mono ?_
        rintro e w4 ⟨rfl, hb4⟩
        have HB4 := Lib.hid (HB3.out.trans (hb4.mono HB3.out.size))
        clear hb4 HOP
        go_wp2_with fail
        go_ret
        exact ⟨rfl, HB4.out⟩
end Go.Proofs.YtlnfeehokpkgiaaDoor.Wal
