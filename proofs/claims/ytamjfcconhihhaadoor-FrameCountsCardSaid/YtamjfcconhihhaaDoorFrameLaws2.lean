/- The laws of layer 4 without the reference, as contracts: there and back, a turned byte, sums. -/
import Derived.Test.YtamjfcconhihhaaDoorFrameLaws
import Derived.Test.YtamjfcconhihhaaDoorFramePlain
namespace Go.Proofs.YtamjfcconhihhaaDoor.Frame
open Go.RowKit Mem Crc
set_option maxRecDepth 100000 in
set_option maxHeartbeats 2000000 in
theorem lawBack (kind : UInt8) (A : Option Addr) (bs : List UInt8) (n cap : Nat) (B : Option Addr) (rs : List UInt8) (m d : Nat) (w : World) (hn : bs.length = n) (hm : rs.length = m) (hmd : m ≤ d) (hl : n ≤ 1073741824) (hl2 : m ≤ 1073741824)
    (hb : BAt w A bs) (hr : BAt w B rs) (ht : Tab w) (hg : 0 < w.heap.size) :
    Calls Tryd.prog 11 #[.int .u8 (V8 kind), .slice A n cap, .slice B m d] w fun e w' => e = .returned (.bool true) ∧ Below w.heap.size w w' := by
  have HB := Lib.hid hb
  have HR := Lib.hid hr
  have HT := Lib.hid ht
  have HN := Lib.hid hn
  have HM := Lib.hid hm
  clear hb hr ht hn hm
  have hkind := V8_lt kind
  go_enter Tryd.func11, Tryd.ntmps11
  go_wp2_with fail
  refine (shown_any _ HT.out hg).mono ?_
  rintro e w1 ⟨rfl, hbw⟩
  have HW1 := Lib.hid hbw
  clear hbw
  go_wp2_with fail
  refine (pack_any kind A bs n cap w1 HN.out (by omega) (HB.out.below HW1.out) (HT.out.below HW1.out hg) (Nat.lt_of_lt_of_le hg HW1.out.size)).mono ?_
  rintro e w2 ⟨A2, N2, c2, rfl, ho, hbw⟩
  obtain rfl : N2 = n + 9 := by rw [← ho.len, pack_length, HN.out]
  have HO2 := Lib.hid ho
  have HW2 := Lib.hid (below_tr HW1.out hbw)
  have hz2 := HW2.out.size
  clear ho hbw
  go_wp2_with (first
    | (at_builtin
       refine wpList_append_bytes rfl (.tmp 24) (.tmp 25) _ rfl w.heap.size _ byteTy _ 0 0 [] rfl (Own.new w2 _ _ rfl hz2 (by rfl) rfl (by decide)) A2 (n + 9) c2 _ rfl
         (HO2.out.bat.below (below_al' _)) HO2.out.len (n + 9) (Nat.zero_add _) (by omega) (by simp; omega) ?_
       intro A3 c3 w3 ho3 hg3 hb3 hA3
       rw [List.nil_append] at ho3
       have HO3 := Lib.hid ho3
       have HW3 := Lib.hid ((HW2.out.alloc hz2 _).trans hb3)
       clear ho3 hg3 hb3 hA3)
    | (at_builtin
       refine wpList_append_bytes rfl (.tmp 26) (.tmp 27) _ rfl w.heap.size _ byteTy A3 (n + 9) c3 _ rfl HO3.out B m d rs rfl
         (HR.out.below HW3.out) HM.out (n + 9 + m) rfl (by omega) HW3.out.size ?_
       intro A4 c4 w4 ho4 hg4 hb4 hA4
       have HO4 := Lib.hid ho4
       have HW4 := Lib.hid (HW3.out.trans hb4)
       clear ho4 hg4 hb4 hA4))
  have hu := unpack_any A4 _ (n + 9 + m) c4 w4 HO4.out.len HO4.out.cap_le.1 (by omega) HO4.out.bat (HT.out.below HW4.out hg)
  rw [unpack_pack kind bs rs (by rw [HN.out]; omega)] at hu
  refine hu.mono ?_
  clear hu
  intro e w5 hr
  obtain ⟨Ap, Np, cp, Aq, Nq, cq, rfl, hp, hq, hbw, _⟩ := hr.some_
  clear hr
  obtain rfl : Np = n := by rw [← hp.len]; exact HN.out
  obtain rfl : Nq = m := by rw [← hq.len]; exact HM.out
  have HP5 := Lib.hid hp
  have HQ5 := Lib.hid hq
  have HW5 := Lib.hid (below_tr HW4.out hbw)
  clear hp hq hbw HO2 HW2 HO3 HW3 HO4 HW4
  go_wp2_with fail
  refine (same_any Ap A bs bs Np Np _ _ w5 HN.out HN.out HP5.out.bat (HB.out.below HW5.out)).mono ?_
  rintro e w6 ⟨rfl, rfl⟩
  rw [show decide (bs = bs) = true from decide_eq_true rfl]
  go_wp2_with fail
  refine (same_any Aq B rs rs Nq Nq _ _ w5 HM.out HM.out HQ5.out.bat (HR.out.below HW5.out)).mono ?_
  rintro e w6 ⟨rfl, rfl⟩
  rw [show decide (rs = rs) = true from decide_eq_true rfl]
  have hlen9 : (((Np + 9 : Nat) : Int) != (Np : Int) + 9) = false := by simp
  go_wp2_with fail
  have hflen := flat_len rs
  cases hun : unpackM rs with
  | none =>
    have hu := unpack_any B rs Nq d w5 HM.out hmd (by omega) (HR.out.below HW5.out) (HT.out.below HW5.out hg)
    rw [hun] at hu
    refine hu.mono ?_
    clear hu
    intro e w7 hr
    obtain ⟨rfl, hbw⟩ := hr.none_
    have HW7 := Lib.hid (below_tr HW5.out hbw)
    clear hr hbw hflen
    go_wp2_with fail
    go_ret
    exact ⟨rfl, HW7.out⟩
  | some r =>
    obtain ⟨k, p, q⟩ := r
    have hu := unpack_any B rs Nq d w5 HM.out hmd (by omega) (HR.out.below HW5.out) (HT.out.below HW5.out hg)
    rw [hun] at hu hflen
    have hpk := pack_unpack rs k p q hun
    refine hu.mono ?_
    clear hu
    intro e w7 hr
    obtain ⟨A7, N7, c7, A8, N8, c8, rfl, hp, hq, hbw, _⟩ := hr.some_
    have hN7 : N7 ≤ Nq := by rw [← hp.len, ← HM.out]; exact hflen.1
    have hN8 : N8 ≤ Nq := by rw [← hq.len, ← HM.out]; exact hflen.2
    have HP7 := Lib.hid hp
    have HQ7 := Lib.hid hq
    have HW7 := Lib.hid (below_tr HW5.out hbw)
    have HPK := Lib.hid hpk
    clear hr hbw hflen hp hq hpk hun
    go_wp2_with fail
    refine (pack_any k A7 p N7 c7 w7 HP7.out.len (by omega) HP7.out.bat (HT.out.below HW7.out hg) (Nat.lt_of_lt_of_le hg HW7.out.size)).mono ?_
    rintro e w8 ⟨A9, N9, c9, rfl, ho, hbw⟩
    obtain rfl : N9 = N7 + 9 := by rw [← ho.len, pack_length, HP7.out.len]
    have HO9 := Lib.hid ho
    have HQ8 := Lib.hid (HQ7.out.below hbw)
    have HW8 := Lib.hid (below_tr HW7.out hbw)
    have HB8 := Lib.hid hbw
    clear ho hbw
    go_wp2_with
      (at_builtin
       refine wpList_append_bytes_g rfl (.tmp 89) (.tmp 90) _ rfl w7.heap.size _ byteTy A9 (N7 + 9) c9 _ rfl HO9.out A8 N8 c8 q rfl
         HQ8.out.bat HQ8.out.len (N7 + 9 + N8) rfl (by omega) HB8.out.size ?_
       intro A10 c10 w9 ho hg10 hb10 hA10
       rw [HPK.out] at ho
       have HO10 := Lib.hid ho
       have HW9 := Lib.hid (HW8.out.trans (hb10.mono HW7.out.size))
       clear ho hg10 hb10 hA10)
    refine (same_any A10 B rs rs (N7 + 9 + N8) Nq _ _ w9 HO10.out.len HM.out HO10.out.bat (HR.out.below HW9.out)).mono ?_
    rintro e w10 ⟨rfl, rfl⟩
    rw [show decide (rs = rs) = true from decide_eq_true rfl]
    go_wp2_with fail
    go_ret
    exact ⟨rfl, HW9.out⟩
set_option maxRecDepth 100000 in
set_option maxHeartbeats 2000000 in
theorem counts_no (v : Nat) (size : Int) (B : Option Addr) (m d : Nat) (w : World) (hv : v < 18446744073709551616) (hs : ¬ (1 ≤ size ∧ size ≤ 8)) (ht : Tab w) (hg : 0 < w.heap.size) :
    Calls Tryd.prog 12 #[.int .u64 v, .int .i64 size, .slice B m d] w fun e w' => e = .returned (.bool true) ∧ Below w.heap.size w w' := by
  have HT := Lib.hid ht
  clear ht
  have hcase : size < 1 ∨ ¬ size < 1 ∧ 8 < size := by omega
  have hnum : number [] v size = [] := by
    unfold number okSize
    rw [if_neg (by simpa using hs)]
  clear hs
  have HNUM := Lib.hid hnum
  clear hnum
  rcases hcase with h1 | ⟨h1, h2⟩
  all_goals
    go_enter Tryd.func12, Tryd.ntmps12
    go_wp2_with fail
    refine (shown_any _ HT.out hg).mono ?_
    rintro e w1 ⟨rfl, hbw⟩
    have HW1 := Lib.hid hbw
    clear hbw
    go_wp2_with fail
    refine (number_any none [] 0 0 v size w1 rfl (by omega) (BAt.nil_ _ _) hv).mono ?_
    rintro e w2 ⟨A2, N2, c2, rfl, ho, hbw⟩
    rw [HNUM.out] at ho
    obtain rfl : N2 = 0 := by rw [← ho.len]; rfl
    have HW2 := Lib.hid (below_tr HW1.out hbw)
    clear ho hbw
    go_wp2_with fail
    go_ret
    exact ⟨rfl, HW2.out⟩
set_option maxRecDepth 100000 in
set_option maxHeartbeats 4000000 in
theorem counts_yes (v s : Nat) (B : Option Addr) (rs : List UInt8) (m d : Nat) (w : World) (hv : v < 18446744073709551616) (h1 : 1 ≤ s) (h8 : s ≤ 8) (hm : rs.length = m) (hl : m ≤ 140737488351232) (hr : BAt w B rs) (ht : Tab w) (hg : 0 < w.heap.size) :
    Calls Tryd.prog 12 #[.int .u64 v, .int .i64 s, .slice B m d] w fun e w' => e = .returned (.bool true) ∧ Below w.heap.size w w' := by
  have HR := Lib.hid hr
  have HT := Lib.hid ht
  have HM := Lib.hid hm
  clear hr ht hm
  have hpos : (0 : Int) ≤ (v : Int) := by omega
  go_enter Tryd.func12, Tryd.ntmps12
  go_wp2_with fail
  refine (shown_any _ HT.out hg).mono ?_
  rintro e w1 ⟨rfl, hbw⟩
  have HW1 := Lib.hid hbw
  clear hbw
  go_wp2_with fail
  refine (number_yes none [] 0 0 v s w1 rfl (by omega) (BAt.nil_ _ _) h1 h8 hv).mono ?_
  rintro e w2 ⟨A2, N2, c2, rfl, ho, hbw⟩
  rw [List.nil_append] at ho
  obtain rfl : N2 = s := by rw [← ho.len, beB_length]
  have HO2 := Lib.hid ho
  have HW2 := Lib.hid (below_tr HW1.out hbw)
  have hz2 := HW2.out.size
  clear ho hbw
  go_wp2_with (first
    | (at_builtin
       refine wpList_append_bytes rfl (.tmp 32) (.tmp 33) _ rfl w.heap.size _ byteTy _ 0 0 [] rfl (Own.new w2 _ _ rfl hz2 (by rfl) rfl (by decide)) A2 N2 c2 _ rfl
         (HO2.out.bat.below (below_al' _)) HO2.out.len N2 (Nat.zero_add _) (by omega) (by simp; omega) ?_
       intro A3 c3 w3 ho3 hg3 hb3 hA3
       rw [List.nil_append] at ho3
       have HO3 := Lib.hid ho3
       have HW3 := Lib.hid ((HW2.out.alloc hz2 _).trans hb3)
       clear ho3 hg3 hb3 hA3)
    | (at_builtin
       refine wpList_append_bytes rfl (.tmp 34) (.tmp 35) _ rfl w.heap.size _ byteTy A3 N2 c3 _ rfl HO3.out B m d rs rfl
         (HR.out.below HW3.out) HM.out (N2 + m) rfl (by omega) HW3.out.size ?_
       intro A4 c4 w4 ho4 hg4 hb4 hA4
       have HO4 := Lib.hid ho4
       have HW4 := Lib.hid (HW3.out.trans hb4)
       clear ho4 hg4 hb4 hA4))
  have hu := take_any A4 _ (N2 + m) c4 N2 w4 HO4.out.len HO4.out.cap_le.1 (by omega) HO4.out.bat
  rw [take_number v N2 rs h1 h8] at hu
  refine hu.mono ?_
  clear hu
  rintro e w5 ⟨A5, N5, c5, rfl, ho, hbw⟩
  dsimp only at ho ⊢
  obtain rfl : N5 = m := by rw [← ho.len]; exact HM.out
  have HO5 := Lib.hid ho
  have HW5 := Lib.hid (below_tr HW4.out hbw)
  clear ho hbw HO2 HW2 HO3 HW3 HO4 HW4
  by_cases hs8 : N2 < 8
  · obtain ⟨M, hM⟩ : ∃ M : Int, M = (256 : Int) ^ N2 := ⟨_, rfl⟩
    have hM1 : (1 : Int) ≤ M := by
      have : 0 < (256 : Int) ^ N2 := Int.pow_pos (by decide)
      omega
    have hrem : (v : Int) % M = ((v % 256 ^ N2 : Nat) : Int) := by rw [hM]; simp
    have hwrap : IntKind.u64.wrap (2 ^ (8 * N2)) = M := by
      have hlt : (2 : Nat) ^ (8 * N2) < 2 ^ 64 := Nat.pow_lt_pow_right (by decide) (by omega)
      have h2 : (2 : Int) ^ (8 * N2) = ((2 ^ (8 * N2) : Nat) : Int) := by simp
      have h3 : (256 : Int) ^ N2 = ((2 ^ (8 * N2) : Nat) : Int) := by
        rw [show (256 : Int) = 2 ^ 8 from rfl, ← Int.pow_mul]; simp
      rw [hM, h3, h2]
      generalize (2 : Nat) ^ (8 * N2) = y at *
      simp [IntKind.wrap, IntKind.bits, IntKind.signed]
      omega
    generalize v % 256 ^ N2 = tv at *
    clear hM
    have hM0 : ¬ M = 0 := by omega
    go_wp2_with fail
    refine (same_any A5 B rs rs N5 N5 _ _ w5 HO5.out.len HM.out HO5.out.bat (HR.out.below HW5.out)).mono ?_
    rintro e w6 ⟨rfl, rfl⟩
    rw [show decide (rs = rs) = true from decide_eq_true rfl]
    go_wp2_with fail
    go_ret
    exact ⟨rfl, HW5.out⟩
  · obtain rfl : N2 = 8 := by omega
    have hmod : v % 256 ^ 8 = v := Nat.mod_eq_of_lt (by omega)
    rw [hmod]
    clear hmod
    go_wp2_with fail
    refine (same_any A5 B rs rs N5 N5 _ _ w5 HO5.out.len HM.out HO5.out.bat (HR.out.below HW5.out)).mono ?_
    rintro e w6 ⟨rfl, rfl⟩
    rw [show decide (rs = rs) = true from decide_eq_true rfl]
    go_wp2_with fail
    go_ret
    exact ⟨rfl, HW5.out⟩
theorem lawCounts (v : Nat) (size : Int) (B : Option Addr) (rs : List UInt8) (m d : Nat) (w : World) (hv : v < 18446744073709551616) (hm : rs.length = m) (hl : m ≤ 140737488351232) (hr : BAt w B rs) (ht : Tab w) (hg : 0 < w.heap.size) :
    Calls Tryd.prog 12 #[.int .u64 v, .int .i64 size, .slice B m d] w fun e w' => e = .returned (.bool true) ∧ Below w.heap.size w w' := by
  by_cases h : 1 ≤ size ∧ size ≤ 8
  · obtain ⟨s, rfl⟩ := Int.eq_ofNat_of_zero_le (show 0 ≤ size by omega)
    exact counts_yes v s B rs m d w hv (by omega) (by omega) hm hl hr ht hg
  · exact counts_no v size B m d w hv h ht hg
set_option maxRecDepth 100000 in
set_option maxHeartbeats 2000000 in
theorem lawSums (kind : UInt8) (A : Option Addr) (bs : List UInt8) (n cap : Nat) (w : World) (hn : bs.length = n) (hl : n ≤ 1073741824) (hb : BAt w A bs) (ht : Tab w) (hg : 0 < w.heap.size) :
    Calls Tryd.prog 14 #[.int .u8 (V8 kind), .slice A n cap] w fun e w' => e = .returned (.bool true) ∧ Below w.heap.size w w' := by
  have HB := Lib.hid hb
  have HT := Lib.hid ht
  have HN := Lib.hid hn
  clear hb ht hn
  have hkind := V8_lt kind
  go_enter Tryd.func14, Tryd.ntmps14
  go_wp2_with fail
  refine (shown_any _ HT.out hg).mono ?_
  rintro e w1 ⟨rfl, hbw⟩
  have HW1 := Lib.hid hbw
  clear hbw
  go_wp2_with fail
  refine (pack_any kind A bs n cap w1 HN.out (by omega) (HB.out.below HW1.out) (HT.out.below HW1.out hg) (Nat.lt_of_lt_of_le hg HW1.out.size)).mono ?_
  rintro e w2 ⟨A2, N2, c2, rfl, ho, hbw⟩
  obtain rfl : N2 = n + 9 := by rw [← ho.len, pack_length, HN.out]
  have hcap2 := ho.cap_le.1
  obtain ⟨g, rfl⟩ : ∃ g, A2 = some ⟨g, 0, none⟩ := by
    rcases ho.form with ⟨_, h, _⟩ | ⟨g, h, _, _⟩
    · omega
    · exact ⟨g, h⟩
  have h4 := ho.at_ (k := 4) (by omega)
  rw [pack_four] at h4
  have HO2 := Lib.hid ho
  have HW2 := Lib.hid (below_tr HW1.out hbw)
  have H4 := Lib.hid h4
  clear ho hbw HW1 h4
  have hlen9 : (((n + 9 : Nat) : Int) != (n : Int) + 9) = false := by simp
  have hsub : (n : Int) + 9 - 4 = ((n + 5 : Nat) : Int) := by omega
  have hc1 := fun W => run_cut_l (P := Tryd.prog) 22 5 byteTy (some ⟨g, 0, none⟩) (n + 9) c2 .i64 ((n : Int) + 5) (n + 5) (by omega) (by omega) W
  have hc2 := fun W => run_cut_h (P := Tryd.prog) 22 5 byteTy (some ⟨g, 0, none⟩) (n + 9) c2 .i64 ((n : Int) + 5) (n + 5) (by omega) (by omega) W
  have hc3 := fun W => run_cut_lh (P := Tryd.prog) 22 5 byteTy (some ⟨g, 0, none⟩) (n + 9) c2 .i64 .i64 5 ((n : Int) + 5) 5 (n + 5) rfl (by omega) (by omega) (by omega) W
  rw [show n + 9 - (n + 5) = 4 by omega] at hc1
  rw [Nat.add_sub_cancel] at hc3
  go_wp2_with fail
  have hpl : (pack kind bs).length = n + 9 := HO2.out.len
  have hu := take_any (cutA (some ⟨g, 0, none⟩) c2 (n + 5)) ((pack kind bs).drop (n + 5)) 4 (c2 - (n + 5)) 4 w2 (by simp [hpl]) (by omega) (by omega) (HO2.out.bat.cut c2 (n + 5) (by omega))
  have htt : takeM ((pack kind bs).drop (n + 5)) 4 = ((more 0#32 (head kind bs)).toNat, [], 0) := by
    have := take_tail kind bs
    rwa [HN.out] at this
  rw [htt] at hu
  refine hu.mono ?_
  clear hu htt
  rintro e w3 ⟨A3, N3, c3, rfl, ho, hbw⟩
  dsimp only at ho ⊢
  obtain rfl : N3 = 0 := by rw [← ho.len]; rfl
  have HB3 := Lib.hid hbw
  have HW3 := Lib.hid (below_tr HW2.out hbw)
  clear ho hbw hpl
  have hs : (more 0#32 (head kind bs)).toNat < 4294967296 := (more 0#32 (head kind bs)).isLt
  have hU : U (more 0#32 (head kind bs)) = (((more 0#32 (head kind bs)).toNat : Nat) : Int) := rfl
  generalize (more 0#32 (head kind bs)).toNat = s at *
  have HU := Lib.hid hU
  clear hU
  go_wp2_with fail
  refine (take_any (some ⟨g, 0, none⟩) (pack kind bs) (n + 9) c2 4 w3 HO2.out.len hcap2 (by omega) (HO2.out.bat.below HB3.out)).mono ?_
  rintro e w4 ⟨A4, N4, c4, rfl, ho, hbw⟩
  have hth := take_head kind bs (by rw [HN.out]; omega)
  rw [hth.1, hth.2, HN.out]
  have h24 := below_tr HB3.out hbw
  have H24 := Lib.hid h24
  have HW4 := Lib.hid (below_tr HW3.out hbw)
  have hc4 : w4.cell? ⟨g, 4, none⟩ = some (.int .u8 (V8 kind)) := (h24.cell (p := ⟨g, 4, none⟩) (cell_lt H4.out)).trans H4.out
  clear ho hbw hth h24 HB3 HW3
  go_wp2_with fail
  have hph : (pack kind bs).take (n + 5) = head kind bs := by have := pack_head kind bs; rwa [HN.out] at this
  have hpm : ((pack kind bs).take (n + 5)).drop 5 = bs := by have := pack_mid kind bs; rwa [HN.out] at this
  have HPM := Lib.hid hpm
  have hB4 := (HO2.out.bat.below H24.out).take (n + 5)
  rw [hph] at hB4
  refine (sum_any (some ⟨g, 0, none⟩) (head kind bs) (n + 5) c2 w4 (by rw [head_length, HN.out]) (by omega) hB4 (HT.out.below HW4.out hg)).mono ?_
  rintro e w5 ⟨rfl, rfl⟩
  rw [HU.out]
  clear hph hpm hB4
  go_wp2_with fail
  have hB5 := ((HO2.out.bat.below H24.out).take (n + 5)).cut c2 5 (by simp; have := HO2.out.len; omega)
  rw [HPM.out] at hB5
  refine (same_any (cutA (some ⟨g, 0, none⟩) c2 5) A bs bs n n _ _ w4 HN.out HN.out hB5 (HB.out.below HW4.out)).mono ?_
  rintro e w6 ⟨rfl, rfl⟩
  rw [show decide (bs = bs) = true from decide_eq_true rfl]
  clear hB5
  go_wp2_with fail
  go_ret
  exact ⟨rfl, HW4.out⟩
set_option maxRecDepth 100000 in
set_option maxHeartbeats 2000000 in
theorem lawTurned (kind : UInt8) (A : Option Addr) (bs : List UInt8) (n cap : Nat) (at_ : Int) (by_ : UInt8) (w : World) (hn : bs.length = n) (hat : -9223372036854775808 ≤ at_ ∧ at_ < 9223372036854775808) (hl : n ≤ 1073741824) (hb : BAt w A bs) (ht : Tab w) (hg : 0 < w.heap.size) :
    Calls Tryd.prog 13 #[.int .u8 (V8 kind), .slice A n cap, .int .i64 at_, .int .u8 (V8 by_)] w fun e w' => e = .returned (.bool true) ∧ Below w.heap.size w w' := by
  have HB := Lib.hid hb
  have HT := Lib.hid ht
  have HN := Lib.hid hn
  clear hb ht hn
  have hkind := V8_lt kind
  have step2 : ∀ x : Int, 0 ≤ x → ∃ p : Nat, p < n + 5 ∧ x % ((n : Int) + 9 - 4) = (p : Int) := by
    intro x hx
    obtain ⟨m, rfl⟩ := Int.eq_ofNat_of_zero_le hx
    exact ⟨m % (n + 5), Nat.mod_lt _ (by omega), by rw [show (n : Int) + 9 - 4 = ((n + 5 : Nat) : Int) by omega]; simp⟩
  have hcase : ∃ p : Nat, p < n + 5 ∧ ((at_ < 0 ∧ (-(at_ + 1)).tmod ((n : Int) + 9 - 4) = (p : Int)) ∨ (¬ at_ < 0 ∧ at_ % ((n : Int) + 9 - 4) = (p : Int))) := by
    by_cases hneg : at_ < 0
    · obtain ⟨p, h1, h2⟩ := step2 (-(at_ + 1)) (by omega)
      exact ⟨p, h1, .inl ⟨hneg, by rw [Int.tmod_eq_emod_of_nonneg (by omega)]; exact h2⟩⟩
    · obtain ⟨p, h1, h2⟩ := step2 at_ (by omega)
      exact ⟨p, h1, .inr ⟨hneg, h2⟩⟩
  clear step2
  obtain ⟨p, hp, hcase⟩ := hcase
  have hlen9 : (((n + 9 : Nat) : Int) != (n : Int) + 9) = false := by simp
  rcases hcase with ⟨hneg, T⟩ | ⟨hneg, T⟩
  all_goals
    go_enter Tryd.func13, Tryd.ntmps13
    go_wp2_with fail
    refine (shown_any _ HT.out hg).mono ?_
    rintro e w1 ⟨rfl, hbw⟩
    have HW1 := Lib.hid hbw
    clear hbw
    go_wp2_with fail
    refine (pack_any kind A bs n cap w1 HN.out (by omega) (HB.out.below HW1.out) (HT.out.below HW1.out hg) (Nat.lt_of_lt_of_le hg HW1.out.size)).mono ?_
    rintro e w2 ⟨A2, N2, c2, rfl, ho, hbw⟩
    obtain rfl : N2 = n + 9 := by rw [← ho.len, pack_length, HN.out]
    have hcap2 := ho.cap_le.1
    obtain ⟨g, rfl⟩ : ∃ g, A2 = some ⟨g, 0, none⟩ := by
      rcases ho.form with ⟨_, h, _⟩ | ⟨g, h, _, _⟩
      · omega
      · exact ⟨g, h⟩
    have hwg : w1.heap.size ≤ g := by
      rcases ho.form with ⟨h, _, _⟩ | ⟨g', h, h2, _⟩
      · cases h
      · injection h with h; injection h with h; omega
    have hcell := ho.at_ (k := 4 + p) (by omega)
    have hfree := ho.free (4 + p)
    have HO2 := Lib.hid ho
    have HW2 := Lib.hid (below_tr HW1.out hbw)
    have hz1 := HW1.out.size
    clear ho hbw HW1
    have hset := HO2.out.setByte (4 + p) ((pack kind bs).getD (4 + p) 0 ^^^ by_)
    have HS := Lib.hid hset
    have HWS := Lib.hid (HW2.out.setCell (p := ⟨g, 4 + p, none⟩) (Nat.le_trans hz1 hwg) (.int .u8 (V8 ((pack kind bs).getD (4 + p) 0 ^^^ by_))))
    clear hset
    generalize hgx : (pack kind bs).getD (4 + p) 0 = x at *
    have HX := Lib.hid hgx
    clear hgx
    have hxor := xor_b8 x by_
    go_wp2_with fail
    clear hxor T
    have hu := unpack_any (some ⟨g, 0, none⟩) _ (n + 9) c2 _ HS.out.len hcap2 (by omega) HS.out.bat (HT.out.below HWS.out hg)
    by_cases hby : by_ = 0
    · subst hby
      have hsame : (pack kind bs).set (4 + p) (x ^^^ 0) = pack kind bs := by
        rw [UInt8.xor_zero, ← HX.out]
        apply List.ext_getElem?
        intro i
        rw [List.getElem?_set]
        by_cases hi : 4 + p = i
        · subst hi
          by_cases hl : 4 + p < (pack kind bs).length
          · simp [List.getD, hl]
          · simp [List.getElem?_eq_none (Nat.le_of_not_lt hl), hl]
        · simp [hi]
      rw [hsame] at hu
      have hup := unpack_pack kind bs [] (by rw [HN.out]; omega)
      rw [List.append_nil] at hup
      rw [hup] at hu
      refine hu.mono ?_
      clear hu hup hsame
      intro e w4 hr
      obtain ⟨Ap, Np, cp, Aq, Nq, cq, rfl, hp', hq', hbw, _⟩ := hr.some_
      obtain rfl : Np = n := by rw [← hp'.len]; exact HN.out
      have HP4 := Lib.hid hp'
      have HW4 := Lib.hid (below_tr HWS.out hbw)
      clear hr hbw hp' hq'
      have hb0 : (V8 0 == 0) = true := by rfl
      go_wp2_with fail
      refine (same_any Ap A bs bs Np Np _ _ w4 HN.out HN.out HP4.out.bat (HB.out.below HW4.out)).mono ?_
      rintro e w6 ⟨rfl, rfl⟩
      rw [show decide (bs = bs) = true from decide_eq_true rfl]
      go_wp2_with fail
      go_ret
      exact ⟨rfl, HW4.out⟩
    · rw [← HX.out, unpack_turned kind bs (4 + p) by_ (by rw [HN.out]; omega) (by omega) (by rw [HN.out]; omega) hby, HX.out] at hu
      refine hu.mono ?_
      clear hu
      intro e w4 hr
      obtain ⟨rfl, hbw⟩ := hr.none_
      have HW4 := Lib.hid (below_tr HWS.out hbw)
      clear hr hbw
      have hb0 : (V8 by_ == 0) = false := by
        rw [beq_eq_false_iff_ne]
        intro h
        exact hby (V8_inj.1 (h.trans (by rfl)))
      go_wp2_with fail
      go_ret
      exact ⟨rfl, HW4.out⟩
end Go.Proofs.YtamjfcconhihhaaDoor.Frame
