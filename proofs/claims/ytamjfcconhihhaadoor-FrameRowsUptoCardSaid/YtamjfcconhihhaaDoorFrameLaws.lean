/- The laws of layer 4 as contracts: over any arguments that are read in memory each law returns true and leaves what was there. -/
import Derived.Test.YtamjfcconhihhaaDoorFrameShown
namespace Go.Proofs.YtamjfcconhihhaaDoor.Frame
open Go.RowKit Mem Crc
theorem u8_same (a : UInt8) : (V8 a == V8 a) = true := by simp
set_option maxRecDepth 100000 in
set_option maxHeartbeats 2000000 in
theorem lawPacks (kind : UInt8) (A : Option Addr) (bs : List UInt8) (n cap : Nat) (w : World) (hn : bs.length = n) (hl : n ≤ 140737488351232) (hb : BAt w A bs) (ht : Tab w) (hg : 0 < w.heap.size) :
    Calls Tryd.prog 8 #[.int .u8 (V8 kind), .slice A n cap] w fun e w' => e = .returned (.bool true) ∧ Below w.heap.size w w' := by
  have HB := Lib.hid hb
  have HT := Lib.hid ht
  have HN := Lib.hid hn
  clear hb ht hn
  have hkind := V8_lt kind
  go_enter Tryd.func8, Tryd.ntmps8
  go_wp2_with fail
  refine (shown_any _ HT.out hg).mono ?_
  rintro e w1 ⟨rfl, hbw⟩
  have HW1 := Lib.hid hbw
  have hz1 := hbw.size
  clear hbw
  go_wp2_with (first
    | (at_builtin
       refine wpList_append_bytes rfl (.tmp 12) (.tmp 13) _ rfl w.heap.size _ byteTy _ 0 0 [] rfl (Own.new w1 _ _ rfl hz1 (by rfl) rfl (by decide)) A n cap bs rfl
         (HB.out.below (HW1.out.alloc hz1 _)) HN.out n (Nat.zero_add n) (by omega) (by simp; omega) ?_
       intro A2 c2 w2 ho2 hg2 hb2 hA2
       have HO2 := Lib.hid ho2
       have HW2 := Lib.hid ((HW1.out.alloc hz1 _).trans hb2)
       clear ho2 hg2 hb2 hA2)
    | (at_builtin
       refine wpList_append_bytes rfl (.tmp 14) (.tmp 15) _ rfl w.heap.size _ byteTy A2 n c2 _ rfl (HO2.out.alloc _) _ 1 1 [77] rfl
         (BAt.new _ _ _ _ (by rfl)) rfl (n + 1) rfl (by omega) (by have := HW2.out.size; simp; omega) ?_
       intro A3 c3 w3 ho3 hg3 hb3 hA3
       rw [List.nil_append] at ho3
       have HO3 := Lib.hid ho3
       have HW3 := Lib.hid ((HW2.out.alloc HW2.out.size _).trans hb3)
       have hcap3 := ho3.cap_le.1
       have hc3 := fun W => run_cut_h (P := Tryd.prog) 22 5 byteTy A3 (n + 1) c3 .i64 (n : Int) n rfl (by omega) W
       clear ho3 hg3 hb3 hA3))
  have htake : (bs ++ [77]).take n = bs := by rw [← HN.out]; simp
  have HTK := Lib.hid htake
  clear htake
  have HB3 : Hid (BAt w3 A3 bs) := by have := HO3.out.bat.take n; rwa [HTK.out] at this
  refine (pack_any kind A3 bs n c3 w3 HN.out (by omega) HB3.out (HT.out.below HW3.out hg) (Nat.lt_of_lt_of_le hg HW3.out.size)).mono ?_
  rintro e w4 ⟨A4, N4, c4, rfl, ho, hbw⟩
  obtain rfl : N4 = n + 9 := by rw [← ho.len, pack_length, HN.out]
  have HO4 := Lib.hid ho
  have HB4 := Lib.hid hbw
  have HW4 := Lib.hid (below_tr HW3.out hbw)
  clear ho hbw
  go_wp2_with fail
  refine (refPack_any kind A bs n cap w4 HN.out (by omega) (HB.out.below HW4.out)).mono ?_
  rintro e w5 ⟨A5, N5, c5, rfl, ho, hbw⟩
  obtain rfl : N5 = n + 9 := by rw [← ho.len, pack_length, HN.out]
  have HO5 := Lib.hid ho
  have HB5 := Lib.hid hbw
  have HW5 := Lib.hid (below_tr HW4.out hbw)
  clear ho hbw
  go_wp2_with fail
  refine (same_any A4 A5 (pack kind bs) (pack kind bs) (n + 9) (n + 9) _ _ w5 HO4.out.len HO5.out.len (HO4.out.bat.below HB5.out) HO5.out.bat).mono ?_
  rintro e w6 ⟨rfl, rfl⟩
  rw [show decide (pack kind bs = pack kind bs) = true from decide_eq_true rfl]
  go_wp2_with fail
  have hz4 := HW4.out.size
  have hz3 := HW3.out.size
  have h45 := HB5.out
  refine (spoil_any A4 (pack kind bs) (n + 9) c4 w3.heap.size w5 (HO4.out.below h45) (by omega) (by have := HB4.out.size; have := h45.size; omega)).mono ?_
  rintro e w6 ⟨rfl, hgr⟩
  have hO3 : Own w6 w.heap.size 5 A3 (n + 1) c3 (bs ++ [77]) := ((HO3.out.below HB4.out).below h45).kept hgr (HO3.out.apart HO4.out (Nat.le_refl _))
  have hO5 : Own w6 w4.heap.size 5 A5 (n + 9) c5 (pack kind bs) := HO5.out.kept hgr (HO4.out.apart' HO5.out (Nat.le_refl _))
  have hW6 : Below w.heap.size w w6 := HW5.out.trans ((Below.refl _ _).grown hgr HW5.out.size (fun k hk => Nat.le_trans hz3 (HO4.out.row_ge k hk)))
  obtain ⟨g, rfl⟩ : ∃ g, A3 = some ⟨g, 0, none⟩ := by
    rcases hO3.form with ⟨_, h, _⟩ | ⟨g, h, _, _⟩
    · omega
    · exact ⟨g, h⟩
  have hc77 : w6.cell? ⟨g, n, none⟩ = some (.int .u8 77) := by
    rw [hO3.at_ (Nat.lt_succ_self n)]
    have e77 : (bs ++ [77]).getD n 0 = 77 := by have h := HN.out; subst h; simp [List.getD]
    rw [e77]
    rfl
  have HO3' := Lib.hid hO3
  have HO5' := Lib.hid hO5
  have HW6 := Lib.hid hW6
  clear hgr hO3 hO5 hW6 h45 HO3 HO4 HO5 HB3 HB4 HB5 HW5 HW4
  have hb3 := HO3'.out.bat.take n
  rw [HTK.out] at hb3
  have HB3 := Lib.hid hb3
  clear hb3
  go_wp2_with fail
  refine (same_any (some ⟨g, 0, none⟩) A bs bs n n _ _ w6 HN.out HN.out HB3.out (HB.out.below HW6.out)).mono ?_
  rintro e w7 ⟨rfl, rfl⟩
  rw [show decide (bs = bs) = true from decide_eq_true rfl]
  go_wp2_with fail
  refine (pack_any kind A bs n cap w6 HN.out (by omega) (HB.out.below HW6.out) (HT.out.below HW6.out hg) (Nat.lt_of_lt_of_le hg HW6.out.size)).mono ?_
  rintro e w8 ⟨A8, N8, c8, rfl, ho, hbw⟩
  obtain rfl : N8 = n + 9 := by rw [← ho.len, pack_length, HN.out]
  have HO8 := Lib.hid ho
  have HO5'' := Lib.hid (HO5'.out.below hbw)
  have HW8 := Lib.hid (below_tr HW6.out hbw)
  clear ho hbw
  go_wp2_with fail
  refine (same_any A8 A5 (pack kind bs) (pack kind bs) (n + 9) (n + 9) _ _ w8 HO8.out.len HO5''.out.len HO8.out.bat HO5''.out.bat).mono ?_
  rintro e w9 ⟨rfl, rfl⟩
  rw [show decide (pack kind bs = pack kind bs) = true from decide_eq_true rfl]
  go_wp2_with fail
  go_ret
  exact ⟨rfl, HW8.out⟩
/-- kind, payload, what is behind, the error: zero beside the error. -/
def flat : Option (UInt8 × List UInt8 × List UInt8) → UInt8 × List UInt8 × List UInt8 × Int
  | none => (0, [], [], 40)
  | some (k, p, q) => (k, p, q, 0)
theorem RetU.flat_ {w w' : World} {r : Option (UInt8 × List UInt8 × List UInt8)} {e : Ending} (h : RetU w r e w') :
    ∃ k p q z A N c A' N' c', flat r = (k, p, q, z) ∧ e = .returned (.tuple #[.int .u8 (V8 k), .slice A N c, .slice A' N' c', .int .i64 z]) ∧ Own w' w.heap.size 5 A N c p ∧ Own w' w.heap.size 5 A' N' c' q ∧
      Below w.heap.size w w' ∧ (A = none ∨ A.map (·.block) ≠ A'.map (·.block)) := by
  rcases h with ⟨rfl, rfl, hb⟩ | ⟨k, p, q, A, N, c, A', N', c', rfl, rest⟩
  · exact ⟨0, [], [], 40, none, 0, 0, none, 0, 0, rfl, rfl, Own.nil_ _ _ _, Own.nil_ _ _ _, hb, .inl rfl⟩
  · exact ⟨k, p, q, 0, A, N, c, A', N', c', rfl, rest⟩
theorem RetV.flat_ {w w' : World} {r : Option (UInt8 × List UInt8 × List UInt8)} {e : Ending} (h : RetV w r e w') :
    ∃ k p q z A N c A' N' c', flat r = (k, p, q, z) ∧ e = .returned (.tuple #[.int .u8 (V8 k), .slice A N c, .slice A' N' c', .int .i64 z]) ∧ Own w' w.heap.size 5 A N c p ∧ Own w' w.heap.size 5 A' N' c' q ∧
      Below w.heap.size w w' := by
  rcases h with ⟨rfl, rfl, hb⟩ | ⟨k, p, q, A, N, c, A', N', c', rfl, rest⟩
  · exact ⟨0, [], [], 40, none, 0, 0, none, 0, 0, rfl, rfl, Own.nil_ _ _ _, Own.nil_ _ _ _, hb⟩
  · exact ⟨k, p, q, 0, A, N, c, A', N', c', rfl, rest⟩
theorem flat_len (bs : List UInt8) : ((flat (unpackM bs)).2.1).length ≤ bs.length ∧ ((flat (unpackM bs)).2.2.1).length ≤ bs.length := by
  unfold unpackM
  split
  · simp [flat]
  · split
    · simp [flat]
    · split
      · simp [flat]
      · simp [flat]; omega
set_option maxRecDepth 100000 in
set_option maxHeartbeats 2000000 in
theorem lawUnpacks (A : Option Addr) (bs : List UInt8) (n cap : Nat) (w : World) (hn : bs.length = n) (hcap : n ≤ cap) (hl : n ≤ 140737488351232) (hb : BAt w A bs) (ht : Tab w) (hg : 0 < w.heap.size) :
    Calls Tryd.prog 9 #[.slice A n cap] w fun e w' => e = .returned (.bool true) ∧ Below w.heap.size w w' := by
  have HB := Lib.hid hb
  have HT := Lib.hid ht
  have HN := Lib.hid hn
  clear hb ht hn
  go_enter Tryd.func9, Tryd.ntmps9
  go_wp2_with fail
  refine (shown_any _ HT.out hg).mono ?_
  rintro e w1 ⟨rfl, hbw⟩
  have HW1 := Lib.hid hbw
  have hz1 := hbw.size
  clear hbw
  go_wp2_with (first
    | (at_builtin
       refine wpList_append_bytes rfl (.tmp 16) (.tmp 17) _ rfl w.heap.size _ byteTy _ 0 0 [] rfl (Own.new w1 _ _ rfl hz1 (by rfl) rfl (by decide)) A n cap bs rfl
         (HB.out.below (HW1.out.alloc hz1 _)) HN.out n (Nat.zero_add n) (by omega) (by simp; omega) ?_
       intro A2 c2 w2 ho2 hg2 hb2 hA2
       have HO2 := Lib.hid ho2
       have HW2 := Lib.hid ((HW1.out.alloc hz1 _).trans hb2)
       clear ho2 hg2 hb2 hA2)
    | (at_builtin
       refine wpList_append_bytes rfl (.tmp 18) (.tmp 19) _ rfl w.heap.size _ byteTy A2 n c2 _ rfl (HO2.out.alloc _) _ 1 1 [77] rfl
         (BAt.new _ _ _ _ (by rfl)) rfl (n + 1) rfl (by omega) (by have := HW2.out.size; simp; omega) ?_
       intro A3 c3 w3 ho3 hg3 hb3 hA3
       rw [List.nil_append] at ho3
       have HO3 := Lib.hid ho3
       have HW3 := Lib.hid ((HW2.out.alloc HW2.out.size _).trans hb3)
       have hcap3 := ho3.cap_le.1
       have hc3 := fun W => run_cut_h (P := Tryd.prog) 22 5 byteTy A3 (n + 1) c3 .i64 (n : Int) n rfl (by omega) W
       clear ho3 hg3 hb3 hA3))
  have htake : (bs ++ [77]).take n = bs := by rw [← HN.out]; simp
  have HTK := Lib.hid htake
  clear htake
  have HB3 : Hid (BAt w3 A3 bs) := by have := HO3.out.bat.take n; rwa [HTK.out] at this
  obtain ⟨k0, p0, q0, z0, hfl⟩ : ∃ k p q z, flat (unpackM bs) = (k, p, q, z) := ⟨_, _, _, _, rfl⟩
  have hflen := flat_len bs
  rw [hfl, HN.out] at hflen
  have HFL := Lib.hid hfl
  clear hfl
  refine (unpack_any A3 bs n c3 w3 HN.out (by omega) (by omega) HB3.out (HT.out.below HW3.out hg)).mono ?_
  intro e w4 hr
  obtain ⟨k, p, q, z, A4, N4, c4, A4', N4', c4', hf, rfl, hp, hq, hbw, hap⟩ := RetU.flat_ hr
  rw [HFL.out] at hf
  simp only [Prod.mk.injEq] at hf
  obtain ⟨rfl, rfl, rfl, rfl⟩ := hf
  have hp4 : N4 ≤ n := by rw [← hp.len]; exact hflen.1
  have hq4 : N4' ≤ n := by rw [← hq.len]; exact hflen.2
  have HP4 := Lib.hid hp
  have HQ4 := Lib.hid hq
  have HB4 := Lib.hid hbw
  have HW4 := Lib.hid (below_tr HW3.out hbw)
  have HAP := Lib.hid hap
  clear hr hp hq hbw hap hflen
  go_wp2_with fail
  refine (refUnpack_any A bs n cap w4 HN.out hcap (by omega) (HB.out.below HW4.out)).mono ?_
  intro e w5 hr
  obtain ⟨k, p, q, z, A5, N5, c5, A5', N5', c5', hf, rfl, hp, hq, hbw⟩ := RetV.flat_ hr
  rw [HFL.out] at hf
  simp only [Prod.mk.injEq] at hf
  obtain ⟨rfl, rfl, rfl, rfl⟩ := hf
  have HP5 := Lib.hid hp
  have HQ5 := Lib.hid hq
  have HB5 := Lib.hid hbw
  have HW5 := Lib.hid (below_tr HW4.out hbw)
  clear hr hp hq hbw
  go_wp2_with fail
  refine (same_any A4 A5 p0 p0 N4 N5 _ _ w5 HP4.out.len HP5.out.len (HP4.out.bat.below HB5.out) HP5.out.bat).mono ?_
  rintro e w6 ⟨rfl, rfl⟩
  rw [show decide (p0 = p0) = true from decide_eq_true rfl]
  go_wp2_with fail
  refine (same_any A4' A5' q0 q0 N4' N5' _ _ w5 HQ4.out.len HQ5.out.len (HQ4.out.bat.below HB5.out) HQ5.out.bat).mono ?_
  rintro e w6 ⟨rfl, rfl⟩
  rw [show decide (q0 = q0) = true from decide_eq_true rfl]
  go_wp2_with fail
  have hz3 := HW3.out.size
  have hz4 := HB4.out.size
  have hz5 := HB5.out.size
  refine (spoil_any A4 p0 N4 c4 w3.heap.size w5 (HP4.out.below HB5.out) (by omega) (by omega)).mono ?_
  rintro e w6 ⟨rfl, hgr⟩
  have hO3 : Own w6 w.heap.size 5 A3 (n + 1) c3 (bs ++ [77]) := ((HO3.out.below HB4.out).below HB5.out).kept hgr (HO3.out.apart HP4.out (Nat.le_refl _))
  have hQ6 : Own w6 w3.heap.size 5 A4' N4' c4' q0 := (HQ4.out.below HB5.out).kept hgr (by
    rcases HAP.out with h | h
    · subst h
      cases A4' with
      | none => exact .inl rfl
      | some a => exact .inr (by simp [Value.ownBlock])
    · exact .inr (fun he => h (by rw [he]; exact HP4.out.block.symm)))
  have hW6 : Below w.heap.size w w6 := HW5.out.trans ((Below.refl _ _).grown hgr HW5.out.size (fun k hk => Nat.le_trans hz3 (HP4.out.row_ge k hk)))
  have hz6 := hgr.size
  have HO6 := Lib.hid hO3
  have HQ6 := Lib.hid hQ6
  have HW6 := Lib.hid hW6
  clear hgr hO3 hQ6 hW6
  go_wp2_with fail
  refine (spoil_any A4' q0 N4' c4' w3.heap.size w6 HQ6.out (by omega) (by omega)).mono ?_
  rintro e w7 ⟨rfl, hgr⟩
  have hO3 : Own w7 w.heap.size 5 A3 (n + 1) c3 (bs ++ [77]) := HO6.out.kept hgr (HO3.out.apart HQ4.out (Nat.le_refl _))
  have hW7 : Below w.heap.size w w7 := HW6.out.trans ((Below.refl _ _).grown hgr HW6.out.size (fun k hk => Nat.le_trans hz3 (HQ6.out.row_ge k hk)))
  obtain ⟨g, rfl⟩ : ∃ g, A3 = some ⟨g, 0, none⟩ := by
    rcases hO3.form with ⟨_, h, _⟩ | ⟨g, h, _, _⟩
    · omega
    · exact ⟨g, h⟩
  have hc77 : w7.cell? ⟨g, n, none⟩ = some (.int .u8 77) := by
    rw [hO3.at_ (Nat.lt_succ_self n)]
    have e77 : (bs ++ [77]).getD n 0 = 77 := by have h := HN.out; subst h; simp [List.getD]
    rw [e77]
    rfl
  have HO7 := Lib.hid hO3
  have HW7 := Lib.hid hW7
  clear hgr hO3 hW7 HO6 HQ6 HW6 HO3 HP4 HQ4 HP5 HQ5 HB3 HB4 HB5 HW5 HW4
  have hb3 := HO7.out.bat.take n
  rw [HTK.out] at hb3
  have HB3 := Lib.hid hb3
  clear hb3
  go_wp2_with fail
  refine (same_any (some ⟨g, 0, none⟩) A bs bs n n _ _ w7 HN.out HN.out HB3.out (HB.out.below HW7.out)).mono ?_
  rintro e w8 ⟨rfl, rfl⟩
  rw [show decide (bs = bs) = true from decide_eq_true rfl]
  go_wp2_with fail
  go_ret
  exact ⟨rfl, HW7.out⟩
theorem number_len (bs : List UInt8) (n : Nat) (size : Int) : (number bs n size).length ≤ bs.length + 8 := by
  unfold number okSize
  split
  · rename_i h
    simp at h
    rw [List.length_append, beB_length]; omega
  · omega
theorem takeM_len (bs : List UInt8) (size : Int) : (takeM bs size).2.1.length ≤ bs.length := by
  unfold takeM
  split
  · split
    · simp
    · simp
  · simp
set_option maxRecDepth 100000 in
set_option maxHeartbeats 2000000 in
theorem lawNumbers (A : Option Addr) (bs : List UInt8) (n cap : Nat) (v : Nat) (size : Int) (w : World) (hn : bs.length = n) (hcap : n ≤ cap) (hl : n ≤ 140737488351232) (hv : v < 18446744073709551616) (hb : BAt w A bs) (ht : Tab w) (hg : 0 < w.heap.size) :
    Calls Tryd.prog 10 #[.slice A n cap, .int .u64 v, .int .i64 size] w fun e w' => e = .returned (.bool true) ∧ Below w.heap.size w w' := by
  have HB := Lib.hid hb
  have HT := Lib.hid ht
  have HN := Lib.hid hn
  clear hb ht hn
  go_enter Tryd.func10, Tryd.ntmps10
  go_wp2_with fail
  refine (shown_any _ HT.out hg).mono ?_
  rintro e w1 ⟨rfl, hbw⟩
  have HW1 := Lib.hid hbw
  have hz1 := hbw.size
  clear hbw
  go_wp2_with (first
    | (at_builtin
       refine wpList_append_bytes rfl (.tmp 19) (.tmp 20) _ rfl w.heap.size _ byteTy _ 0 0 [] rfl (Own.new w1 _ _ rfl hz1 (by rfl) rfl (by decide)) A n cap bs rfl
         (HB.out.below (HW1.out.alloc hz1 _)) HN.out n (Nat.zero_add n) (by omega) (by simp; omega) ?_
       intro A2 c2 w2 ho2 hg2 hb2 hA2
       have HO2 := Lib.hid ho2
       have HW2 := Lib.hid ((HW1.out.alloc hz1 _).trans hb2)
       clear ho2 hg2 hb2 hA2)
    | (at_builtin
       refine wpList_append_bytes rfl (.tmp 21) (.tmp 22) _ rfl w.heap.size _ byteTy A2 n c2 _ rfl (HO2.out.alloc _) _ 1 1 [77] rfl
         (BAt.new _ _ _ _ (by rfl)) rfl (n + 1) rfl (by omega) (by have := HW2.out.size; simp; omega) ?_
       intro A3 c3 w3 ho3 hg3 hb3 hA3
       rw [List.nil_append] at ho3
       have HO3 := Lib.hid ho3
       have HW3 := Lib.hid ((HW2.out.alloc HW2.out.size _).trans hb3)
       have hcap3 := ho3.cap_le.1
       have hc3 := fun W => run_cut_h (P := Tryd.prog) 22 5 byteTy A3 (n + 1) c3 .i64 (n : Int) n rfl (by omega) W
       clear ho3 hg3 hb3 hA3))
  have htake : (bs ++ [77]).take n = bs := by rw [← HN.out]; simp
  have HTK := Lib.hid htake
  clear htake
  have HB3 : Hid (BAt w3 A3 bs) := by have := HO3.out.bat.take n; rwa [HTK.out] at this
  have hlen1 := number_len bs v size
  have hlen2 := takeM_len bs size
  rw [HN.out] at hlen1 hlen2
  refine (number_any A3 bs n c3 v size w3 HN.out (by omega) HB3.out hv).mono ?_
  rintro e w4 ⟨A4, N4, c4, rfl, ho, hbw⟩
  have hn4 : N4 ≤ n + 8 := by rw [← ho.len]; exact hlen1
  have HO4 := Lib.hid ho
  have HB4 := Lib.hid hbw
  have HW4 := Lib.hid (below_tr HW3.out hbw)
  clear ho hbw hlen1
  go_wp2_with fail
  refine (take_any A3 bs n c3 size w4 HN.out (by omega) (by omega) (HB3.out.below HB4.out)).mono ?_
  rintro e w5 ⟨A5, N5, c5, rfl, ho, hbw⟩
  have hn5 : N5 ≤ n := by rw [← ho.len]; exact hlen2
  have HO5 := Lib.hid ho
  have HB5 := Lib.hid hbw
  have HW5 := Lib.hid (below_tr HW4.out hbw)
  clear ho hbw hlen2
  go_wp2_with fail
  refine (refTake_any A bs n cap size w5 HN.out hcap (by omega) (HB.out.below HW5.out)).mono ?_
  rintro e w6 ⟨A6, N6, c6, rfl, ho, hbw⟩
  have HO6 := Lib.hid ho
  have HB6 := Lib.hid hbw
  have HW6 := Lib.hid (below_tr HW5.out hbw)
  clear ho hbw
  generalize (takeM bs size).1 = tn at *
  generalize (takeM bs size).2.2 = tz at *
  generalize (takeM bs size).2.1 = tr at *
  go_wp2_with fail
  refine (refNumber_any A bs n cap v size w6 HN.out (by omega) (HB.out.below HW6.out) hv).mono ?_
  rintro e w7 ⟨A7, N7, c7, rfl, ho, hbw⟩
  have HO7 := Lib.hid ho
  have HB7 := Lib.hid hbw
  have HW7 := Lib.hid (below_tr HW6.out hbw)
  clear ho hbw
  generalize number bs v size = nr at *
  have h47 := below_tr (below_tr HB5.out HB6.out) HB7.out
  have h57 := below_tr HB6.out HB7.out
  have h67 := HB7.out
  have H47 := Lib.hid h47
  have H57 := Lib.hid h57
  have hs4 := HB4.out.size
  have hs5 := h47.size
  have hs57 := h57.size
  have hs45 := HB5.out.size
  clear h47 h57 h67
  go_wp2_with fail
  refine (same_any A4 A7 nr nr N4 N7 _ _ w7 HO4.out.len HO7.out.len (HO4.out.bat.below H47.out) HO7.out.bat).mono ?_
  rintro e w8 ⟨rfl, rfl⟩
  rw [show decide (nr = nr) = true from decide_eq_true rfl]
  go_wp2_with fail
  refine (same_any A5 A6 tr tr N5 N6 _ _ w7 HO5.out.len HO6.out.len (HO5.out.bat.below H57.out) (HO6.out.bat.below HB7.out)).mono ?_
  rintro e w8 ⟨rfl, rfl⟩
  rw [show decide (tr = tr) = true from decide_eq_true rfl]
  go_wp2_with fail
  have hz3 := HW3.out.size
  refine (spoil_any A4 nr N4 c4 w3.heap.size w7 (HO4.out.below H47.out) (by omega) (by omega)).mono ?_
  rintro e w8 ⟨rfl, hgr⟩
  have hO3 : Own w8 w.heap.size 5 A3 (n + 1) c3 (bs ++ [77]) := ((HO3.out.below HB4.out).below H47.out).kept hgr (HO3.out.apart HO4.out (Nat.le_refl _))
  have hO5 : Own w8 w4.heap.size 5 A5 N5 c5 tr := (HO5.out.below H57.out).kept hgr (HO4.out.apart' HO5.out (Nat.le_refl _))
  have hW8 : Below w.heap.size w w8 := HW7.out.trans ((Below.refl _ _).grown hgr HW7.out.size (fun k hk => Nat.le_trans hz3 (HO4.out.row_ge k hk)))
  have hz8 := hgr.size
  have HO8 := Lib.hid hO3
  have HO58 := Lib.hid hO5
  have HW8 := Lib.hid hW8
  clear hgr hO3 hO5 hW8
  go_wp2_with fail
  refine (spoil_any A5 tr N5 c5 w4.heap.size w8 HO58.out (by omega) (by omega)).mono ?_
  rintro e w9 ⟨rfl, hgr⟩
  have hO3 : Own w9 w.heap.size 5 A3 (n + 1) c3 (bs ++ [77]) := HO8.out.kept hgr (HO3.out.apart HO5.out hs4)
  have hW9 : Below w.heap.size w w9 := HW8.out.trans ((Below.refl _ _).grown hgr HW8.out.size (fun k hk => Nat.le_trans (Nat.le_trans hz3 hs4) (HO5.out.row_ge k hk)))
  obtain ⟨g, rfl⟩ : ∃ g, A3 = some ⟨g, 0, none⟩ := by
    rcases hO3.form with ⟨_, h, _⟩ | ⟨g, h, _, _⟩
    · omega
    · exact ⟨g, h⟩
  have hc77 : w9.cell? ⟨g, n, none⟩ = some (.int .u8 77) := by
    rw [hO3.at_ (Nat.lt_succ_self n)]
    have e77 : (bs ++ [77]).getD n 0 = 77 := by have h := HN.out; subst h; simp [List.getD]
    rw [e77]
    rfl
  have HO9 := Lib.hid hO3
  have HW9 := Lib.hid hW9
  clear hgr hO3 hW9 HO8 HO58 HW8 HO3 HO4 HO5 HO6 HO7 HB3 HB4 HB5 HB6 HB7 HW5 HW4 HW6 HW7 H47 H57
  have hb3 := HO9.out.bat.take n
  rw [HTK.out] at hb3
  have HB3 := Lib.hid hb3
  clear hb3
  go_wp2_with fail
  refine (same_any (some ⟨g, 0, none⟩) A bs bs n n _ _ w9 HN.out HN.out HB3.out (HB.out.below HW9.out)).mono ?_
  rintro e w10 ⟨rfl, rfl⟩
  rw [show decide (bs = bs) = true from decide_eq_true rfl]
  go_wp2_with fail
  go_ret
  exact ⟨rfl, HW9.out⟩
end Go.Proofs.YtamjfcconhihhaaDoor.Frame
