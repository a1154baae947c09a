/- Frames one behind the other: the law as a contract. -/
import Derived.Test.YtamjfcconhihhaaDoorFrameLaws
import Derived.Test.YtamjfcconhihhaaDoorFramePlain
namespace Go.Proofs.YtamjfcconhihhaaDoor.Frame
open Go.RowKit Mem Crc
/-- The slice at A has slices of bytes, these. -/
def SAt (w : World) (A : Option Addr) (l : List (List UInt8)) : Prop :=
  ∀ k, k < l.length → ∃ (ad : Addr) (B : Option Addr) (c : Nat), A = some ad ∧ w.cell? (ad.add k) = some (.slice B (l.getD k []).length c) ∧ BAt w B (l.getD k [])
theorem SAt.below {w w' : World} {A : Option Addr} {l : List (List UInt8)} (h : SAt w A l) (hb : Below w.heap.size w w') : SAt w' A l := fun k hk => by
  obtain ⟨ad, B, c, e, hc, hB⟩ := h k hk
  exact ⟨ad, B, c, e, (hb.cell (cell_lt hc)).trans hc, hB.below hb⟩
theorem SAt.take {w : World} {A : Option Addr} {l : List (List UInt8)} (h : SAt w A l) (n : Nat) : SAt w A (l.take n) := fun k hk => by
  rw [List.length_take] at hk
  obtain ⟨ad, B, c, e, hc, hB⟩ := h k (by omega)
  have hkn : k < n := by omega
  have : (l.take n).getD k [] = l.getD k [] := by simp [List.getD, hkn]
  exact ⟨ad, B, c, e, by rw [this]; exact hc, by rw [this]; exact hB⟩
/-- The frames from the a-th on, m of them. -/
def packs (l : List (List UInt8)) (a : Nat) : Nat → List UInt8
  | 0 => []
  | m + 1 => pack (UInt8.ofNat a) (l.getD a []) ++ packs l (a + 1) m
theorem packs_snoc (l : List (List UInt8)) (a m : Nat) : packs l a (m + 1) = packs l a m ++ pack (UInt8.ofNat (a + m)) (l.getD (a + m) []) := by
  induction m generalizing a with
  | zero => simp [packs]
  | succ m ih =>
    rw [packs, ih (a + 1), packs, List.append_assoc, show a + 1 + m = a + (m + 1) by omega]
theorem packs_len (l : List (List UInt8)) (M : Nat) (hM : ∀ k, k < l.length → (l.getD k []).length ≤ M) (m a : Nat) (h : a + m ≤ l.length) : (packs l a m).length ≤ m * (M + 9) := by
  induction m generalizing a with
  | zero => simp [packs]
  | succ m ih =>
    rw [packs, List.length_append, pack_length, Nat.succ_mul]
    have := hM a (by omega)
    have := ih (a + 1) (by omega)
    omega
/-- What holds at the head of a round of the first loop. -/
def Row1 (w : World) (l : List (List UInt8)) (av iv : Value) (wr : World) : Prop :=
  ∃ (k : Nat) (A : Option Addr) (N c : Nat), k ≤ l.length ∧ iv = .int .i64 k ∧ av = .slice A N c ∧ Own wr w.heap.size 5 A N c (packs l 0 k) ∧ Below w.heap.size w wr
/-- What holds at the head of a round of the second loop. -/
def Row2 (w : World) (l : List (List UInt8)) (av iv : Value) (wr : World) : Prop :=
  ∃ (k m : Nat) (A : Option Addr) (N c : Nat), k + m = l.length ∧ iv = .int .i64 k ∧ av = .slice A N c ∧ N ≤ c ∧ (packs l k m).length = N ∧ BAt wr A (packs l k m) ∧ Below w.heap.size w wr
theorem run_cut_rows {P : Program} (t e : TypeId) (ht : P.underlying t = some (.slice e)) (hi : (P.info? e).map (fun i => (i.zero, i.size, i.bytes)) = some (some (.slice none 0 0), 1, 24)) (A : Option Addr) (n cap : Nat) (kh : IntKind) (H : Int) (h : Nat) (hH : H = (h : Int)) (hh : h ≤ cap) (W : World) :
    (Instr.sliceAt t (.slice A n cap) none (some (.int kh H)) none).run P W = .ok (.slice A h cap) W := by
  subst hH
  obtain ⟨i, hi, hz, hs, hby⟩ := info_parts hi
  have hA : ¬ cap = 0 → A.map (fun x => x.add 0) = A := fun _ => add_zero_map A
  simp [Instr.sliceAt, Instr.slice, run_underlying ht, Instr.sliceBounds, run_sliceBound W kh (h : Int) cap .sliceAcap (by omega) (by omega), sizeOf, typeInfo, hi, hs]
  exact hA
theorem byte_eq (k : Nat) (h : k ≤ 40) : V8 (UInt8.ofNat k) = (k : Int) := by
  rw [V8_ofNat]; omega
set_option maxRecDepth 100000 in
set_option maxHeartbeats 4000000 in
theorem lawRows (A : Option Addr) (l : List (List UInt8)) (n cap : Nat) (w : World) (hn : l.length = n) (hcap : n ≤ cap) (hM : ∀ k, k < l.length → (l.getD k []).length ≤ 1073741824)
    (hl : SAt w A l) (ht : Tab w) (hg : 0 < w.heap.size) :
    Calls Tryd.prog 15 #[.slice A n cap] w fun e w' => e = .returned (.bool true) ∧ Below w.heap.size w w' := by
  have HL := Lib.hid hl
  have HT := Lib.hid ht
  have HN := Lib.hid hn
  have HM := Lib.hid hM
  clear hl ht hn hM
  obtain ⟨m, hm⟩ : ∃ m : Nat, m = 40 := ⟨_, rfl⟩
  have hm' : (40 : Int) = (m : Int) := by omega
  rcases Nat.lt_or_ge 40 n with h40 | h40
  · have hcut := fun W => run_cut_rows (P := Tryd.prog) 48 22 Tryd.underlying48 (by kernel_rfl) A n cap .i64 40 m hm' (by omega) W
    have hbig : (40 : Int) < (n : Int) := by omega
    have hma : m ≤ 40 ∧ 40 ≤ m := by omega
    clear hm hm'
    have HCUT := Lib.hid hcut
    clear hcut
    go_enter Tryd.func15, Tryd.ntmps15
    go_wp2_with fail
    refine (shown_any _ HT.out hg).mono ?_
    rintro e w1 ⟨rfl, hbw⟩
    have HW1 := Lib.hid hbw
    clear hbw
    have hcut := HCUT.out
    go_wp2_with fail
    have HL' := Lib.hid (HL.out.take m)
    have HM' : Hid (∀ k, k < (l.take m).length → ((l.take m).getD k []).length ≤ 1073741824) := Lib.hid fun k hk => by
      rw [List.length_take] at hk
      have hkn : k < m := by omega
      have : (l.take m).getD k [] = l.getD k [] := by simp [List.getD, hkn]
      rw [this]
      exact HM.out k (by omega)
    have HN' : Hid ((l.take m).length = m) := Lib.hid (by rw [List.length_take, HN.out]; omega)
    clear HL HM HN hcut HCUT hbig h40 hcap
    generalize l.take m = l at *
    have h40 : m ≤ 40 := hma.1
    clear hma
    go_loopw [4, 5] (fun a i wr => Row1 w l a i wr) (fun _ i _ => m - (intOf i).toNat)
    case atStart => exact ⟨0, _, 0, 0, Nat.zero_le _, rfl, rfl, Own.new w1 _ _ rfl HW1.out.size (by rfl) rfl (by decide), HW1.out.alloc HW1.out.size _⟩
    case round =>
      obtain ⟨k, A1, N, c, hk, rfl, rfl, ho, hw⟩ := hrel
      have HO := Lib.hid ho
      have HW := Lib.hid hw
      clear ho hw
      have HSZ := Lib.hid HW.out.size
      have hkm : k ≤ m := by have := HN'.out; omega
      have hNL : N ≤ 42949673320 := by
        have h1 := packs_len l 1073741824 HM'.out k 0 (by have := HN'.out; omega)
        rw [HO.out.len] at h1
        have h2 := Nat.mul_le_mul_right 1073741833 (show k ≤ 40 by omega)
        omega
      have HNL := Lib.hid hNL
      clear hNL
      by_cases hlt : k < m
      · obtain ⟨ad, B, cb, rfl, hcell, hB⟩ := (HL'.out.below HW.out) k (by have := HN'.out; omega)
        have hMK := HM'.out k (by have := HN'.out; omega)
        have hSN := packs_snoc l 0 k
        rw [Nat.zero_add] at hSN
        obtain ⟨bk, hbk⟩ : ∃ bk, l.getD k [] = bk := ⟨_, rfl⟩
        obtain ⟨nk, hnk⟩ : ∃ nk, bk.length = nk := ⟨_, rfl⟩
        rw [hbk] at hB hSN
        rw [hbk, hnk] at hcell hMK
        have hp := pack_any (UInt8.ofNat k) B bk nk cb wr hnk (by omega) hB (HT.out.below HW.out hg) (Nat.lt_of_lt_of_le hg HSZ.out)
        rw [byte_eq k (by omega)] at hp
        have HP := Lib.hid hp
        have HNK := Lib.hid hnk
        have HSN := Lib.hid hSN
        have HCELL := Lib.hid hcell
        have HMK := Lib.hid hMK
        clear hB hSN hp hbk hnk hcell hMK
        have hcell := HCELL.out
        go_wp2_with fail
        refine HP.out.mono ?_
        rintro e w2 ⟨A2, N2, c2, rfl, ho2, hbw⟩
        obtain rfl : N2 = nk + 9 := by rw [← ho2.len, pack_length, HNK.out]
        have HO2 := Lib.hid ho2
        have HO1 := Lib.hid (HO.out.below hbw)
        have HW2 := Lib.hid (below_tr HW.out hbw)
        clear ho2 hbw hcell
        go_wp2_with
          (at_builtin
           refine wpList_append_bytes rfl (.tmp 30) (.tmp 37) _ rfl w.heap.size _ byteTy A1 N c _ rfl HO1.out A2 (nk + 9) c2 _ rfl
             HO2.out.bat HO2.out.len (N + (nk + 9)) rfl (by have := HNL.out; have := HMK.out; omega) HW2.out.size ?_
           intro A3 c3 w3 ho3 hg3 hb3 hA3
           have HO3 := Lib.hid ho3
           have HW3 := Lib.hid (HW2.out.trans hb3)
           clear ho3 hg3 hb3 hA3)
        go_roundw
        case rel => exact ⟨k + 1, A3, _, c3, by have := HN'.out; omega, by go_num, rfl, by rw [HSN.out]; exact HO3.out, HW3.out⟩
        case measure => simp [intOf]; omega
      · obtain rfl : m = k := by omega
        go_wp2_with fail
        go_loopw [4, 6] (fun a i wr => Row2 w l a i wr) (fun _ i _ => m - (intOf i).toNat)
        case atStart => exact ⟨0, m, A1, N, c, by have := HN'.out; omega, rfl, rfl, HO.out.cap_le.1, HO.out.len, HO.out.bat, HW.out⟩
        case round =>
          obtain ⟨k, j, A2, N2, c2, hkj, rfl, rfl, hcap2, hlen2, hb2, hw2⟩ := hrel
          have HW2 := Lib.hid hw2
          have HB2 := Lib.hid hb2
          have HLEN2 := Lib.hid hlen2
          clear hw2 hb2 hlen2 HO HW HSZ
          have hN2 : N2 ≤ 42949673320 := by
            have h1 := packs_len l 1073741824 HM'.out j k (by omega)
            rw [HLEN2.out] at h1
            have h2 := Nat.mul_le_mul_right 1073741833 (show j ≤ 40 by have := HN'.out; omega)
            omega
          have hu := unpack_any A2 _ N2 c2 wr HLEN2.out hcap2 (by omega) HB2.out (HT.out.below HW2.out hg)
          cases j with
          | succ j =>
            obtain ⟨ad, B, cb, rfl, hcell, hB⟩ := (HL'.out.below HW2.out) k (by omega)
            have hMK := HM'.out k (by omega)
            have hSN : packs l k (j + 1) = pack (UInt8.ofNat k) (l.getD k []) ++ packs l (k + 1) j := rfl
            obtain ⟨bk, hbk⟩ : ∃ bk, l.getD k [] = bk := ⟨_, rfl⟩
            obtain ⟨nk, hnk⟩ : ∃ nk, bk.length = nk := ⟨_, rfl⟩
            rw [hbk] at hB hSN
            rw [hbk, hnk] at hcell hMK
            rw [hSN, unpack_pack _ _ _ (by rw [hnk]; omega)] at hu
            have hl2 := HLEN2.out
            rw [hSN, List.length_append, pack_length, hnk] at hl2
            have hk40 : k ≤ 40 := by have := HN'.out; omega
            have hklt : k < m := by have := HN'.out; omega
            have HU := Lib.hid hu
            have HNK := Lib.hid hnk
            have HBK := Lib.hid hB
            have HCELL := Lib.hid hcell
            have HKJ := Lib.hid hkj
            have HL2 := Lib.hid hl2
            clear hu hnk hB hcell hSN hbk hkj hl2 hMK
            go_wp2_with fail
            refine HU.out.mono ?_
            intro e w5 hr
            obtain ⟨Ap, Np, cp, Aq, Nq, cq, rfl, hp, hq, hbw, _⟩ := hr.some_
            clear hr
            obtain rfl : Np = nk := by rw [← hp.len]; exact HNK.out
            obtain rfl : N2 = Np + 9 + Nq := by rw [← hq.len]; exact HL2.out.symm
            have HP5 := Lib.hid hp
            have HQ5 := Lib.hid hq
            have HB5 := Lib.hid (HBK.out.below hbw)
            have HC5 := Lib.hid ((hbw.cell (cell_lt HCELL.out)).trans HCELL.out)
            have HW5 := Lib.hid (below_tr HW2.out hbw)
            clear hp hq hbw HU HL2
            have hcell := HC5.out
            have hv8 := byte_eq k hk40
            have h9 : ((Nq : Int) != (Np : Int) + 9 + (Nq : Int) - (Np : Int) - 9) = false := by simp; omega
            go_wp2_with fail
            refine (same_any Ap B bk bk Np Np cp cb w5 HNK.out HNK.out HP5.out.bat HB5.out).mono ?_
            rintro e w6 ⟨rfl, rfl⟩
            rw [show decide (bk = bk) = true from decide_eq_true rfl]
            go_wp2_with fail
            go_roundw
            case rel => exact ⟨k + 1, j, Aq, Nq, cq, by have := HKJ.out; omega, by go_num, rfl, HQ5.out.cap_le.1, HQ5.out.len, HQ5.out.bat, HW5.out⟩
            case measure => simp [intOf]; omega
          | zero =>
            obtain rfl : k = m := by have := HN'.out; omega
            have hu' : Calls _ _ _ _ (RetU wr none) := hu
            obtain rfl : N2 = 0 := HLEN2.out.symm
            have HU := Lib.hid hu'
            clear hu hu' hN2
            go_wp2_with fail
            refine HU.out.mono ?_
            intro e w5 hr
            obtain ⟨rfl, hbw⟩ := hr.none_
            have HW5 := Lib.hid (below_tr HW2.out hbw)
            clear hr hbw
            go_wp2_with fail
            go_ret
            exact ⟨rfl, HW5.out⟩
  · clear hm hm' m
    obtain ⟨m, rfl⟩ : ∃ m, m = n := ⟨_, rfl⟩
    have hno : ¬ (40 : Int) < (m : Int) := by omega
    go_enter Tryd.func15, Tryd.ntmps15
    go_wp2_with fail
    refine (shown_any _ HT.out hg).mono ?_
    rintro e w1 ⟨rfl, hbw⟩
    have HW1 := Lib.hid hbw
    clear hbw
    go_wp2_with fail
    have HL' := HL
    have HM' := HM
    have HN' := HN
    clear HL HM HN
    go_loopw [4, 5] (fun a i wr => Row1 w l a i wr) (fun _ i _ => m - (intOf i).toNat)
    case atStart => exact ⟨0, _, 0, 0, Nat.zero_le _, rfl, rfl, Own.new w1 _ _ rfl HW1.out.size (by rfl) rfl (by decide), HW1.out.alloc HW1.out.size _⟩
    case round =>
      obtain ⟨k, A1, N, c, hk, rfl, rfl, ho, hw⟩ := hrel
      have HO := Lib.hid ho
      have HW := Lib.hid hw
      clear ho hw
      have HSZ := Lib.hid HW.out.size
      have hkm : k ≤ m := by have := HN'.out; omega
      have hNL : N ≤ 42949673320 := by
        have h1 := packs_len l 1073741824 HM'.out k 0 (by have := HN'.out; omega)
        rw [HO.out.len] at h1
        have h2 := Nat.mul_le_mul_right 1073741833 (show k ≤ 40 by omega)
        omega
      have HNL := Lib.hid hNL
      clear hNL
      by_cases hlt : k < m
      · obtain ⟨ad, B, cb, rfl, hcell, hB⟩ := (HL'.out.below HW.out) k (by have := HN'.out; omega)
        have hMK := HM'.out k (by have := HN'.out; omega)
        have hSN := packs_snoc l 0 k
        rw [Nat.zero_add] at hSN
        obtain ⟨bk, hbk⟩ : ∃ bk, l.getD k [] = bk := ⟨_, rfl⟩
        obtain ⟨nk, hnk⟩ : ∃ nk, bk.length = nk := ⟨_, rfl⟩
        rw [hbk] at hB hSN
        rw [hbk, hnk] at hcell hMK
        have hp := pack_any (UInt8.ofNat k) B bk nk cb wr hnk (by omega) hB (HT.out.below HW.out hg) (Nat.lt_of_lt_of_le hg HSZ.out)
        rw [byte_eq k (by omega)] at hp
        have HP := Lib.hid hp
        have HNK := Lib.hid hnk
        have HSN := Lib.hid hSN
        have HCELL := Lib.hid hcell
        have HMK := Lib.hid hMK
        clear hB hSN hp hbk hnk hcell hMK
        have hcell := HCELL.out
        go_wp2_with fail
        refine HP.out.mono ?_
        rintro e w2 ⟨A2, N2, c2, rfl, ho2, hbw⟩
        obtain rfl : N2 = nk + 9 := by rw [← ho2.len, pack_length, HNK.out]
        have HO2 := Lib.hid ho2
        have HO1 := Lib.hid (HO.out.below hbw)
        have HW2 := Lib.hid (below_tr HW.out hbw)
        clear ho2 hbw hcell
        go_wp2_with
          (at_builtin
           refine wpList_append_bytes rfl (.tmp 30) (.tmp 37) _ rfl w.heap.size _ byteTy A1 N c _ rfl HO1.out A2 (nk + 9) c2 _ rfl
             HO2.out.bat HO2.out.len (N + (nk + 9)) rfl (by have := HNL.out; have := HMK.out; omega) HW2.out.size ?_
           intro A3 c3 w3 ho3 hg3 hb3 hA3
           have HO3 := Lib.hid ho3
           have HW3 := Lib.hid (HW2.out.trans hb3)
           clear ho3 hg3 hb3 hA3)
        go_roundw
        case rel => exact ⟨k + 1, A3, _, c3, by have := HN'.out; omega, by go_num, rfl, by rw [HSN.out]; exact HO3.out, HW3.out⟩
        case measure => simp [intOf]; omega
      · obtain rfl : m = k := by omega
        go_wp2_with fail
        go_loopw [4, 6] (fun a i wr => Row2 w l a i wr) (fun _ i _ => m - (intOf i).toNat)
        case atStart => exact ⟨0, m, A1, N, c, by have := HN'.out; omega, rfl, rfl, HO.out.cap_le.1, HO.out.len, HO.out.bat, HW.out⟩
        case round =>
          obtain ⟨k, j, A2, N2, c2, hkj, rfl, rfl, hcap2, hlen2, hb2, hw2⟩ := hrel
          have HW2 := Lib.hid hw2
          have HB2 := Lib.hid hb2
          have HLEN2 := Lib.hid hlen2
          clear hw2 hb2 hlen2 HO HW HSZ
          have hN2 : N2 ≤ 42949673320 := by
            have h1 := packs_len l 1073741824 HM'.out j k (by omega)
            rw [HLEN2.out] at h1
            have h2 := Nat.mul_le_mul_right 1073741833 (show j ≤ 40 by have := HN'.out; omega)
            omega
          have hu := unpack_any A2 _ N2 c2 wr HLEN2.out hcap2 (by omega) HB2.out (HT.out.below HW2.out hg)
          cases j with
          | succ j =>
            obtain ⟨ad, B, cb, rfl, hcell, hB⟩ := (HL'.out.below HW2.out) k (by omega)
            have hMK := HM'.out k (by omega)
            have hSN : packs l k (j + 1) = pack (UInt8.ofNat k) (l.getD k []) ++ packs l (k + 1) j := rfl
            obtain ⟨bk, hbk⟩ : ∃ bk, l.getD k [] = bk := ⟨_, rfl⟩
            obtain ⟨nk, hnk⟩ : ∃ nk, bk.length = nk := ⟨_, rfl⟩
            rw [hbk] at hB hSN
            rw [hbk, hnk] at hcell hMK
            rw [hSN, unpack_pack _ _ _ (by rw [hnk]; omega)] at hu
            have hl2 := HLEN2.out
            rw [hSN, List.length_append, pack_length, hnk] at hl2
            have hk40 : k ≤ 40 := by have := HN'.out; omega
            have hklt : k < m := by have := HN'.out; omega
            have HU := Lib.hid hu
            have HNK := Lib.hid hnk
            have HBK := Lib.hid hB
            have HCELL := Lib.hid hcell
            have HKJ := Lib.hid hkj
            have HL2 := Lib.hid hl2
            clear hu hnk hB hcell hSN hbk hkj hl2 hMK
            go_wp2_with fail
            refine HU.out.mono ?_
            intro e w5 hr
            obtain ⟨Ap, Np, cp, Aq, Nq, cq, rfl, hp, hq, hbw, _⟩ := hr.some_
            clear hr
            obtain rfl : Np = nk := by rw [← hp.len]; exact HNK.out
            obtain rfl : N2 = Np + 9 + Nq := by rw [← hq.len]; exact HL2.out.symm
            have HP5 := Lib.hid hp
            have HQ5 := Lib.hid hq
            have HB5 := Lib.hid (HBK.out.below hbw)
            have HC5 := Lib.hid ((hbw.cell (cell_lt HCELL.out)).trans HCELL.out)
            have HW5 := Lib.hid (below_tr HW2.out hbw)
            clear hp hq hbw HU HL2
            have hcell := HC5.out
            have hv8 := byte_eq k hk40
            have h9 : ((Nq : Int) != (Np : Int) + 9 + (Nq : Int) - (Np : Int) - 9) = false := by simp; omega
            go_wp2_with fail
            refine (same_any Ap B bk bk Np Np cp cb w5 HNK.out HNK.out HP5.out.bat HB5.out).mono ?_
            rintro e w6 ⟨rfl, rfl⟩
            rw [show decide (bk = bk) = true from decide_eq_true rfl]
            go_wp2_with fail
            go_roundw
            case rel => exact ⟨k + 1, j, Aq, Nq, cq, by have := HKJ.out; omega, by go_num, rfl, HQ5.out.cap_le.1, HQ5.out.len, HQ5.out.bat, HW5.out⟩
            case measure => simp [intOf]; omega
          | zero =>
            obtain rfl : k = m := by have := HN'.out; omega
            have hu' : Calls _ _ _ _ (RetU wr none) := hu
            obtain rfl : N2 = 0 := HLEN2.out.symm
            have HU := Lib.hid hu'
            clear hu hu' hN2
            go_wp2_with fail
            refine HU.out.mono ?_
            intro e w5 hr
            obtain ⟨rfl, hbw⟩ := hr.none_
            have HW5 := Lib.hid (below_tr HW2.out hbw)
            clear hr hbw
            go_wp2_with fail
            go_ret
            exact ⟨rfl, HW5.out⟩
end Go.Proofs.YtamjfcconhihhaaDoor.Frame
