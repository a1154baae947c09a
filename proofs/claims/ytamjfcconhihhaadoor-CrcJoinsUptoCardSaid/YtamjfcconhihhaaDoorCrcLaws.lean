/- The laws of layer 1 as contracts: over any arguments that are read in memory each law returns true and leaves what was there. -/
import Derived.Test.YtamjfcconhihhaaDoorCrcShown
import Derived.Test.YtamjfcconhihhaaDoorBytes
import Derived.Laws.Cover1
import Derived.BigQuiet
import Derived.Deep.QuietTactic
import Derived.LoopTactic
namespace Go.Proofs.YtamjfcconhihhaaDoor.Crc
open Go.RowKit Mem
set_option maxHeartbeats 400000 in
theorem lawSums (s : BitVec 32) (A : Option Addr) (bs : List UInt8) (n cap : Nat) (w : World) (hn : bs.length = n) (hl : n ≤ 9223372036854775807) (hb : BAt w A bs) (ht : Tab w) (hg : 0 < w.heap.size) :
    Calls Tryd.prog 3 #[.slice A n cap, .int .u32 (U s)] w fun e w' => e = .returned (.bool true) ∧ Below w.heap.size w w' := by
  have HB := Lib.hid hb
  have HT := Lib.hid ht
  have HN := Lib.hid hn
  clear hb ht hn
  go_enter Tryd.func3, Tryd.ntmps3
  go_wp2_with fail
  refine (shown_any _ HT.out hg).mono ?_
  rintro e w1 ⟨rfl, hbw⟩
  have HBW := Lib.hid hbw
  have HB1 := Lib.hid (HB.out.below hbw)
  have HT1 := Lib.hid (HT.out.below hbw hg)
  clear hbw
  go_wp2_with fail
  refine (sum_any _ bs _ _ _ HN.out hl HB1.out HT1.out).mono ?_
  rintro e w2 ⟨rfl, rfl⟩
  go_wp2_with fail
  refine (refSum_any _ bs _ _ _ HN.out hl HB1.out).mono ?_
  rintro e w2 ⟨rfl, rfl⟩
  go_wp2_with fail
  refine (more_any s _ bs _ _ _ HN.out hl HB1.out HT1.out).mono ?_
  rintro e w2 ⟨rfl, rfl⟩
  go_wp2_with fail
  refine (refMore_any s _ bs _ _ _ HN.out hl HB1.out).mono ?_
  rintro e w2 ⟨rfl, rfl⟩
  go_wp2_with fail
  go_ret
  exact ⟨rfl, HBW.out⟩
theorem byteTy : ByteTy Tryd.prog 22 5 := ⟨Tryd.underlying22, Tryd.underlying5, by kernel_rfl⟩
set_option maxHeartbeats 400000 in
theorem lawJoins (s : BitVec 32) (A : Option Addr) (as_ : List UInt8) (n cap : Nat) (B : Option Addr) (bs : List UInt8) (m d : Nat) (w : World) (hn : as_.length = n) (hm : bs.length = m)
    (hl : n + m ≤ 1073741824) (ha : BAt w A as_) (hb : BAt w B bs) (ht : Tab w) (hg : 0 < w.heap.size) :
    Calls Tryd.prog 4 #[.slice A n cap, .slice B m d, .int .u32 (U s)] w fun e w' => e = .returned (.bool true) ∧ Below w.heap.size w w' := by
  have HA := Lib.hid ha
  have HB := Lib.hid hb
  have HT := Lib.hid ht
  have HN := Lib.hid hn
  have HM := Lib.hid hm
  clear ha hb ht hn hm
  go_enter Tryd.func4, Tryd.ntmps4
  go_wp2_with fail
  refine (shown_any _ HT.out hg).mono ?_
  rintro e w1 ⟨rfl, hbw⟩
  have HBW := Lib.hid hbw
  have HA1 := Lib.hid (HA.out.below hbw)
  have HB1 := Lib.hid (HB.out.below hbw)
  have HT1 := Lib.hid (HT.out.below hbw hg)
  clear hbw
  have hsz := HBW.out.size
  go_wp2_with (first
    | (at_builtin
       refine wpList_append_bytes rfl (.tmp 12) (.tmp 13) _ rfl w.heap.size _ byteTy _ 0 0 [] rfl (Own.new w1 _ _ rfl hsz (by rfl) rfl (by decide)) A n cap as_ rfl
         (HA1.out.below ((Below.refl _ _).alloc (Nat.le_refl _) _)) HN.out n (Nat.zero_add n) (by omega) (by simp; omega) ?_
       intro A2 c2 w2 ho2 hg2 hb2 hA2
       have HO2 := Lib.hid ho2
       have HBW2 := Lib.hid ((HBW.out.alloc hsz _).trans hb2)
       clear ho2 hg2 hb2 hA2)
    | (at_builtin
       refine wpList_append_bytes rfl (.tmp 14) (.tmp 15) _ rfl w.heap.size _ byteTy A2 n c2 _ rfl HO2.out B m d bs rfl
         (HB.out.below HBW2.out) HM.out (n + m) rfl (by omega) HBW2.out.size ?_
       intro A3 c3 w3 ho3 hg3 hb3 hA3
       have HO3 := Lib.hid ho3
       have HBW3 := Lib.hid (HBW2.out.trans hb3)
       clear ho3 hg3 hb3 hA3))
  have HT3 := Lib.hid (HT.out.below HBW3.out hg)
  have HA3 := Lib.hid (HA.out.below HBW3.out)
  have HB3 := Lib.hid (HB.out.below HBW3.out)
  have HO4 := Lib.hid HO3.out.bat
  refine (more_any s _ as_ _ _ _ HN.out (by omega) HA3.out HT3.out).mono ?_
  rintro e w4 ⟨rfl, rfl⟩
  go_wp2_with fail
  refine (more_any _ _ bs _ _ _ HM.out (by omega) HB3.out HT3.out).mono ?_
  rintro e w4 ⟨rfl, rfl⟩
  go_wp2_with fail
  refine (sum_any _ as_ _ _ _ HN.out (by omega) HA3.out HT3.out).mono ?_
  rintro e w4 ⟨rfl, rfl⟩
  go_wp2_with fail
  refine (more_any _ _ bs _ _ _ HM.out (by omega) HB3.out HT3.out).mono ?_
  rintro e w4 ⟨rfl, rfl⟩
  rw [← more_append, ← more_append]
  go_wp2_with fail
  refine (more_any s _ ([] ++ as_ ++ bs) _ _ _ HO3.out.len (by omega) HO4.out HT3.out).mono ?_
  rintro e w4 ⟨rfl, rfl⟩
  rw [List.nil_append]
  go_wp2_with fail
  refine (sum_any _ ([] ++ as_ ++ bs) _ _ _ HO3.out.len (by omega) HO4.out HT3.out).mono ?_
  rintro e w4 ⟨rfl, rfl⟩
  rw [List.nil_append]
  go_wp2_with fail
  refine (more_any 0#32 _ bs _ _ _ HM.out (by omega) HB3.out HT3.out).mono ?_
  rintro e w4 ⟨rfl, rfl⟩
  go_wp2_with fail
  refine (sum_any _ bs _ _ _ HM.out (by omega) HB3.out HT3.out).mono ?_
  rintro e w4 ⟨rfl, rfl⟩
  go_wp2_with fail
  go_ret
  exact ⟨rfl, HBW3.out⟩
set_option maxHeartbeats 400000 in
theorem lawResidue (A : Option Addr) (bs : List UInt8) (n cap : Nat) (w : World) (hn : bs.length = n)
    (hl : n + 4 ≤ 140737488355328) (hb : BAt w A bs) (ht : Tab w) (hg : 0 < w.heap.size) :
    Calls Tryd.prog 7 #[.slice A n cap] w fun e w' => e = .returned (.bool true) ∧ Below w.heap.size w w' := by
  have HB := Lib.hid hb
  have HT := Lib.hid ht
  have HN := Lib.hid hn
  clear hb ht hn
  go_enter Tryd.func7, Tryd.ntmps7
  go_wp2_with fail
  refine (shown_any _ HT.out hg).mono ?_
  rintro e w1 ⟨rfl, hbw⟩
  have HBW := Lib.hid hbw
  have HB1 := Lib.hid (HB.out.below hbw)
  have HT1 := Lib.hid (HT.out.below hbw hg)
  clear hbw
  go_wp2_with fail
  refine (sum_any _ bs _ _ _ HN.out (by omega) HB1.out HT1.out).mono ?_
  rintro e w2 ⟨rfl, rfl⟩
  generalize hs : more 0#32 bs = s
  have HS := Lib.hid hs
  clear hs
  have hu := U_lt s
  go_wp2_with fail
  have hsz := HBW.out.size
  have HT2 := Lib.hid (HT1.out.below ((Below.refl _ _).alloc (Nat.le_refl _) _) (by omega) : Tab (w1.alloc (.cells #[Value.int .u8 (U s % 256), Value.int .u8 (U s / 256 % 256), Value.int .u8 (U s / 65536 % 256), Value.int .u8 (U s / 16777216)] 5)))
  have HL := Lib.hid (BAt.new w1 _ 5 (0, 0) (le4_bytes s))
  refine (more_any s _ (le4 s) 4 _ _ rfl (by decide) HL.out HT2.out).mono ?_
  rintro e w4 ⟨rfl, rfl⟩
  rw [more_residue, residue_num]
  have HX := Lib.hid (le4_bytes s)
  have HW4 : Hid (Below w.heap.size w (w1.alloc (.cells #[Value.int .u8 (U s % 256), Value.int .u8 (U s / 256 % 256), Value.int .u8 (U s / 65536 % 256), Value.int .u8 (U s / 16777216)] 5))) := HBW.out.alloc hsz _
  generalize w1.alloc (.cells #[Value.int .u8 (U s % 256), Value.int .u8 (U s / 256 % 256), Value.int .u8 (U s / 65536 % 256), Value.int .u8 (U s / 16777216)] 5) = w4 at *
  have hsz4 := HW4.out.size
  go_wp2_with (first
    | (at_builtin
       refine wpList_append_bytes_g rfl (.tmp 29) (.tmp 30) _ rfl w4.heap.size _ byteTy _ 0 0 [] rfl (Own.new w4 _ _ rfl (Nat.le_refl _) (by rfl) rfl (by decide)) A n cap bs rfl
         (HB.out.below (HW4.out.alloc hsz4 _)) HN.out n (Nat.zero_add n) (by omega) (by simp) ?_
       intro A2 c2 w5 ho2 hg2 hb2 hA2
       have HO2 := Lib.hid ho2
       have HBW2 := Lib.hid (((Below.refl w4.heap.size w4).alloc (Nat.le_refl _) _).trans hb2)
       clear ho2 hg2 hb2 hA2)
    | (at_builtin
       refine wpList_append_bytes_g rfl (.tmp 31) (.tmp 32) _ rfl w4.heap.size _ byteTy A2 n c2 _ rfl HO2.out _ 4 4 (le4 s) rfl
         (HL.out.below HBW2.out) rfl (n + 4) rfl (by omega) HBW2.out.size ?_
       intro A3 c3 w6 ho3 hg3 hb3 hA3
       have HO3 := Lib.hid ho3
       have HBW3 := Lib.hid (HBW2.out.trans hb3)
       clear ho3 hg3 hb3 hA3))
  have HO4 := Lib.hid HO3.out.bat
  have HT3 := Lib.hid (HT2.out.below HBW3.out (Nat.lt_of_lt_of_le hg hsz4))
  refine (sum_any _ ([] ++ bs ++ le4 s) _ _ _ HO3.out.len (by omega) HO4.out HT3.out).mono ?_
  rintro e w7 ⟨rfl, rfl⟩
  rw [List.nil_append, more_append, HS.out, more_residue, residue_num]
  go_wp2_with fail
  go_ret
  exact ⟨rfl, HW4.out.trans (HBW3.out.mono hsz4)⟩
def LinRel (w : World) (g n : Nat) (xs ys zs : List UInt8) (i : Value) (wr : World) : Prop :=
  ∃ (k : Nat) (ds : List UInt8), k ≤ n ∧ i = .int .i64 k ∧ ds.length = n ∧ Blk wr g 5 (cellsOf ds) ∧ Below w.heap.size w wr ∧ ∀ j, j < k → ds.getD j 0 = xs.getD j 0 ^^^ ys.getD j 0 ^^^ zs.getD j 0
attribute [local go_sem] xor_b8 xor_bv
set_option maxHeartbeats 400000 in
theorem lawLinear (A B C : Option Addr) (xs ys zs : List UInt8) (na nb nc ca cb cc : Nat) (w : World) (ha : xs.length = na) (hb : ys.length = nb) (hc : zs.length = nc)
    (la : na ≤ ca) (lb : nb ≤ cb) (lc : nc ≤ cc) (ma : na ≤ 140737488355328) (hA : BAt w A xs) (hB : BAt w B ys) (hC : BAt w C zs) (ht : Tab w) (hg : 0 < w.heap.size) :
    Calls Tryd.prog 6 #[.slice A na ca, .slice B nb cb, .slice C nc cc] w fun e w' => e = .returned (.bool true) ∧ Below w.heap.size w w' := by
  obtain ⟨n, hn⟩ : ∃ n, n = min na (min nb nc) := ⟨_, rfl⟩
  have hna : n ≤ na := by omega
  have hnb : n ≤ nb := by omega
  have hnc : n ≤ nc := by omega
  have hmin : ∀ W, (Builtin.min_ #[3, 3, 3] 3 #[.int .i64 (na : Int), .int .i64 (nb : Int), .int .i64 (nc : Int)]).run Tryd.prog W = .ok (.int .i64 (n : Int)) W := by
    intro W
    rw [run_min_int3]
    congr 2
    split <;> split <;> omega
  have HA := Lib.hid hA
  have HB := Lib.hid hB
  have HC := Lib.hid hC
  have HT := Lib.hid ht
  have Ha := Lib.hid ha
  have Hb := Lib.hid hb
  have Hc := Lib.hid hc
  clear hA hB hC ht hn ha hb hc
  go_enter Tryd.func6, Tryd.ntmps6
  go_wp2_with fail
  refine (shown_any _ HT.out hg).mono ?_
  rintro e w1 ⟨rfl, hbw⟩
  have HBW := Lib.hid hbw
  clear hbw
  go_wp2_with (refine wpList_make_bytes rfl (.tmp 19) (.tmp 19) _ _ rfl byteTy _ _ n rfl rfl (by omega) ?_; intro w2 hb2 hw2 hz2; have HG2 := Lib.hid hb2; have HBW2 := Lib.hid hw2; clear hb2 hw2)
  have hwg : w.heap.size ≤ w1.heap.size := HBW.out.size
  have HW2 : Hid (Below w.heap.size w w2) := HBW.out.trans (HBW2.out.mono hwg)
  generalize w1.heap.size = g at *
  clear HBW HBW2
  go_loopw [10] (fun i wr => LinRel w g n xs ys zs i wr) (fun i _ => n - (intOf i).toNat)
  case atStart => exact ⟨0, _, Nat.zero_le _, rfl, by simp, HG2.out, HW2.out, fun j hj => absurd hj (by omega)⟩
  case round =>
    obtain ⟨k, ds, hk, rfl, hds, hG, hW, hj⟩ := hrel
    clear HG2 HW2
    have HG := Lib.hid hG
    have HW := Lib.hid hW
    have HJ := Lib.hid hj
    have Hds := Lib.hid hds
    clear hG hW hj hds
    by_cases hlt : k < n
    · obtain ⟨a, rfl, ca'⟩ := (HA.out.below HW.out) (by have := Ha.out; omega)
      obtain ⟨b, rfl, cb'⟩ := (HB.out.below HW.out) (by have := Hb.out; omega)
      obtain ⟨c, rfl, cc'⟩ := (HC.out.below HW.out) (by have := Hc.out; omega)
      have h1 := ca' k (by have := Ha.out; omega)
      have h2 := cb' k (by have := Hb.out; omega)
      have h3 := cc' k (by have := Hc.out; omega)
      clear ca' cb' cc'
      generalize hx : xs.getD k 0 = x at *
      generalize hy : ys.getD k 0 = y at *
      generalize hz : zs.getD k 0 = z at *
      have Hx := Lib.hid hx
      have Hy := Lib.hid hy
      have Hz := Lib.hid hz
      clear hx hy hz
      have h4 := HG.out.byte (k := k) (by have := Hds.out; omega)
      have h5 := HG.out.frozen k
      go_wp2
      go_region
      have hds' := Hds.out
      have hb' := HW.out.setCell (p := ⟨g, k, none⟩) hwg (.int .u8 (V8 (x ^^^ y ^^^ z)))
      have HR : Hid (LinRel w g n xs ys zs (.int .i64 (↑k + 1)) (wr.setCell ⟨g, k, none⟩ (.int .u8 (V8 (x ^^^ y ^^^ z)))).drew) := by
        refine ⟨k + 1, ds.set k (x ^^^ y ^^^ z), hlt, by go_num, by simpa using hds', (HG.out.setByte k _).drew, hb'.drew, fun j hj => ?_⟩
        rcases Nat.lt_or_ge j k with h | h
        · have := HJ.out j h
          simp [List.getD, List.getElem?_set, Nat.ne_of_gt h] at this ⊢
          exact this
        · obtain rfl : j = k := by omega
          rw [Hx.out, Hy.out, Hz.out]
          simp [List.getD, List.getElem?_set, hds', hlt]
      go_wp2
      go_roundw
      case rel => exact HR.out
      case measure => simp [intOf]; omega
    · obtain rfl : k = n := by omega
      have hds' := Hds.out
      have hs : more 0#32 ds = more 0#32 (xs.take k) ^^^ more 0#32 (ys.take k) ^^^ more 0#32 (zs.take k) := by
        have h1 := Ha.out
        have h2 := Hb.out
        have h3 := Hc.out
        refine more_lin _ _ _ _ (by simp; omega) (by simp; omega) (by simp; omega) fun i hi => ?_
        have := HJ.out i (by omega)
        simp [List.getD, show i < k by omega] at this ⊢
        exact this
      have HS := Lib.hid hs
      have HGB := Lib.hid HG.out.bat
      have HT' := Lib.hid (HT.out.below HW.out hg)
      have HA' := Lib.hid ((HA.out.below HW.out).take k)
      have HB' := Lib.hid ((HB.out.below HW.out).take k)
      have HC' := Lib.hid ((HC.out.below HW.out).take k)
      have la' : (xs.take k).length = k := by have := Ha.out; simp; omega
      have lb' : (ys.take k).length = k := by have := Hb.out; simp; omega
      have lc' : (zs.take k).length = k := by have := Hc.out; simp; omega
      have La := Lib.hid la'
      have Lb := Lib.hid lb'
      have Lc := Lib.hid lc'
      have hbeq : (U (more 0#32 ds) == U (more 0#32 (xs.take k) ^^^ more 0#32 (ys.take k) ^^^ more 0#32 (zs.take k))) = true := by rw [hs]; exact beq_self_eq_true _
      have HQ := Lib.hid hbeq
      clear hs la' lb' lc' hds' hbeq
      go_wp2
      have c1 := Lib.hid (sum_q _ ds k k wr Hds.out (by omega) HGB.out HT'.out)
      have c2 := Lib.hid (sum_q A _ k ca wr La.out (by omega) HA'.out HT'.out)
      have c3 := Lib.hid (sum_q B _ k cb wr Lb.out (by omega) HB'.out HT'.out)
      have c4 := Lib.hid (sum_q C _ k cc wr Lc.out (by omega) HC'.out HT'.out)
      have i1 : (0 : Int) ≤ (k : Int) := by omega
      have i2 : (k : Int) ≤ (na : Int) := by omega
      have i3 : (k : Int) ≤ (ca : Int) := by omega
      have i4 : (k : Int) ≤ (cb : Int) := by omega
      have i5 : (k : Int) ≤ (cc : Int) := by omega
      go_quiet ((go_at_call 17; first | exact Calls.quiet_of_same (c1.out _) | exact Calls.quiet_of_same (c2.out _) | exact Calls.quiet_of_same (c3.out _) | exact Calls.quiet_of_same (c4.out _)))
      rw [HQ.out]
      go_wp2
      go_ret
      exact ⟨rfl, below_drewN HW.out nq⟩
/-- What holds at the head of a round of CrcTells: i bits are looked at; the difference of the sums' registers is W's. -/
def TellRel (w : World) (g n c at_ : Nat) (bs : List UInt8) (v : BitVec 32) (tv iv : Value) (wr : World) : Prop :=
  ∃ (k : Nat) (ds : List UInt8) (W : Nat) (t : Bool), k ≤ 32 ∧ iv = .int .i64 k ∧ tv = .bool t ∧ Own wr w.heap.size 5 (some ⟨g, 0, none⟩) n c ds ∧ Below w.heap.size w wr ∧
    W < 2 ^ k ∧ (t = true ↔ W ≠ 0) ∧ ds.foldl byteB (~~~ 0#32) = bs.foldl byteB (~~~ 0#32) ^^^ rep (8 * n - at_) bit1 (BitVec.ofNat 32 W)
set_option maxHeartbeats 400000 in
theorem tells_core (v : BitVec 32) (A : Option Addr) (bs : List UInt8) (n cap : Nat) (at_ : Int) (w : World) (hn : bs.length = n) (h0 : 0 < n) (hz : U v ≠ 0) (hat : -9223372036854775808 ≤ at_ ∧ at_ < 9223372036854775808)
    (hl : n ≤ 140737488355328) (hb : BAt w A bs) (ht : Tab w) (hg : 0 < w.heap.size) :
    Calls Tryd.prog 5 #[.slice A n cap, .int .i64 at_, .int .u32 (U v)] w fun e w' => e = .returned (.bool true) ∧ Below w.heap.size w w' := by
  have HB := Lib.hid hb
  have HT := Lib.hid ht
  have HN := Lib.hid hn
  clear hb ht hn
  have e1 : ((n : Int) == 0) = false := by rw [beq_eq_false_iff_ne]; omega
  have e2 : (U v == 0) = false := by rw [beq_eq_false_iff_ne]; exact hz
  have hu := U_lt v
  have step2 : ∀ x : Int, 0 ≤ x → ∃ p : Nat, p < 8 * n ∧ x.tmod (8 * (n : Int)) = (p : Int) := by
    intro x hx
    rw [Int.tmod_eq_emod_of_nonneg hx]
    obtain ⟨m, rfl⟩ := Int.eq_ofNat_of_zero_le hx
    exact ⟨m % (8 * n), Nat.mod_lt _ (by omega), by simp⟩
  have hcase : ∃ p : Nat, p < 8 * n ∧ ((at_ < 0 ∧ (-(at_ + 1)).tmod (8 * (n : Int)) = (p : Int)) ∨ (¬ at_ < 0 ∧ at_.tmod (8 * (n : Int)) = (p : Int))) := by
    by_cases hneg : at_ < 0
    · obtain ⟨p, h1, h2⟩ := step2 (-(at_ + 1)) (by omega)
      exact ⟨p, h1, .inl ⟨hneg, h2⟩⟩
    · obtain ⟨p, h1, h2⟩ := step2 at_ (by omega)
      exact ⟨p, h1, .inr ⟨hneg, h2⟩⟩
  clear step2
  obtain ⟨p, hp, hcase⟩ := hcase
  rcases hcase with ⟨hneg, T⟩ | ⟨hneg, T⟩
  all_goals
    go_enter Tryd.func5, Tryd.ntmps5
    go_wp2_with fail
    refine (shown_any _ HT.out hg).mono ?_
    rintro e w1 ⟨rfl, hbw⟩
    have HBW := Lib.hid hbw
    clear hbw
    go_wp2_with
      (at_builtin
       refine wpList_append_bytes rfl (.tmp 35) (.tmp 36) _ rfl w.heap.size _ byteTy _ 0 0 [] rfl (Own.new w1 _ _ rfl HBW.out.size (by rfl) rfl (by decide)) A n cap bs rfl
         (HB.out.below (HBW.out.alloc HBW.out.size _)) HN.out n (Nat.zero_add n) (by omega) (by have := HBW.out.size; simp; omega) ?_
       intro A2 c2 w5 ho2 hg2 hb2 hA2
       have HO2 := Lib.hid ho2
       have HBW2 := Lib.hid ((HBW.out.alloc HBW.out.size _).trans hb2)
       clear ho2 hg2 hb2 hA2)
    obtain ⟨g, rfl⟩ : ∃ g, A2 = some ⟨g, 0, none⟩ := by
      rcases HO2.out.form with ⟨_, h, _⟩ | ⟨g, h, _, _⟩
      · omega
      · exact ⟨g, h⟩
    have hwg : w.heap.size ≤ g := by
      rcases HO2.out.form with ⟨h, _, _⟩ | ⟨g', h, h2, _⟩
      · cases h
      · injection h with h; injection h with h; omega
    clear T e1 e2 hneg
    go_loopw [9, 10] (fun t i wr => TellRel w g n c2 p bs v t i wr) (fun _ i _ => 32 - (intOf i).toNat)
    case atStart =>
      refine ⟨0, bs, 0, false, by omega, rfl, rfl, HO2.out, HBW2.out, by omega, by simp, ?_⟩
      rw [show BitVec.ofNat 32 0 = 0#32 from rfl, rep_zero, BitVec.xor_zero]
    case round =>
      obtain ⟨k, ds, W, t, hk, rfl, rfl, hO, hW, hWk, htW, hf⟩ := hrel
      have HO := Lib.hid hO
      have HW := Lib.hid hW
      have Ht := Lib.hid htW
      have Hf := Lib.hid hf
      clear hO hW htW hf HO2 HBW2
      by_cases hlt : k < 32
      · by_cases hin : p + k < 8 * n
        · have hi1 : (0 : Int) ≤ (p : Int) + (k : Int) := by omega
          have hi2 : ((p : Int) + (k : Int)) < 8 * (n : Int) := by omega
          have hcell := HO.out.at_ (k := (p + k) / 8) (by omega)
          have hfree := HO.out.free ((p + k) / 8)
          by_cases hbit : (U v / 2 ^ k).tmod 2 = 1
          · have hbit' : ((U v / 2 ^ k).tmod 2 == 1) = true := by simpa using hbit
            clear hbit
            go_wp2
            go_region
            have hlen := HO.out.len
            have hW' := HW.out.setCell (p := ⟨g, (p + k) / 8, none⟩) hwg (.int .u8 (V8 (ds.getD ((p + k) / 8) 0 ^^^ bitAt ((p + k) % 8))))
            have hO' := HO.out.setByte ((p + k) / 8) (ds.getD ((p + k) / 8) 0 ^^^ bitAt ((p + k) % 8))
            rw [flip_set ds (p + k) (by omega)] at hO'
            have hp2 : 0 < 2 ^ k := Nat.two_pow_pos k
            have HR : Hid (TellRel w g n c2 p bs v (.bool true) (.int .i64 (↑k + 1)) (wr.setCell ⟨g, (p + k) / 8, none⟩ (.int .u8 (V8 (ds.getD ((p + k) / 8) 0 ^^^ bitAt ((p + k) % 8))))).drew) :=
              ⟨k + 1, flip ds (p + k), W + 2 ^ k, true, hlt, by go_num, rfl, hO'.drew, hW'.drew, by rw [Nat.pow_succ]; omega, ⟨fun _ => by omega, fun _ => rfl⟩, tell_step ds bs n p k W (by omega) hlt hin hWk Hf.out⟩
            rw [← xor_bit _ _ (Nat.mod_lt _ (by decide))] at HR
            go_wp2
            go_roundw
            case rel => exact HR.out
            case measure => simp [intOf]; omega
          · have hbit' : ((U v / 2 ^ k).tmod 2 == 1) = false := by simpa using hbit
            clear hbit
            have hp2 : W < 2 ^ (k + 1) := by rw [Nat.pow_succ]; omega
            go_wp2
            go_roundw
            case rel => exact ⟨k + 1, ds, W, t, hlt, by go_num, rfl, HO.out, HW.out, hp2, Ht.out, Hf.out⟩
            case measure => simp [intOf]; omega
        · have hin' : ¬ ((p : Int) + (k : Int)) < 8 * (n : Int) := by omega
          have hp2 : W < 2 ^ (k + 1) := by rw [Nat.pow_succ]; omega
          go_wp2
          go_roundw
          case rel => exact ⟨k + 1, ds, W, t, hlt, by go_num, rfl, HO.out, HW.out, hp2, Ht.out, Hf.out⟩
          case measure => simp [intOf]; omega
      · obtain rfl : k = 32 := by omega
        have hlen := HO.out.len
        have HOB := Lib.hid HO.out.bat
        have HT' := Lib.hid (HT.out.below HW.out hg)
        have HB' := Lib.hid (HB.out.below HW.out)
        have hte : ∀ x y, x = U (more 0#32 bs) → y = U (more 0#32 ds) → ((x != y) == t) = true := by
          intro x y hx hy
          subst hx hy
          have h1 := tell_end ds bs n p W hWk Hf.out
          have h2 := Ht.out
          have h3 : (U (more 0#32 bs) != U (more 0#32 ds)) = decide (W ≠ 0) := by
            rw [Bool.eq_iff_iff, bne_iff_ne, ne_eq, U_inj, decide_eq_true_iff]; exact h1
          rw [h3]
          cases t
          · simp at h2; simp [h2]
          · simp at h2; simp [h2]
        have HTE := Lib.hid hte
        have HL := Lib.hid hlen
        clear hte hlen
        go_wp2_with fail
        refine (sum_any _ bs _ _ _ HN.out (by omega) HB'.out HT'.out).mono ?_
        rintro e w7 ⟨rfl, rfl⟩
        generalize hx : U (more 0#32 bs) = x at *
        have Hx := Lib.hid hx
        clear hx
        go_wp2_with fail
        refine (sum_any _ ds _ _ _ HL.out (by omega) HOB.out HT'.out).mono ?_
        rintro e w7 ⟨rfl, rfl⟩
        generalize hy : U (more 0#32 ds) = y at *
        clear hy
        have hq := HTE.out x y rfl rfl
        go_wp2_with fail
        go_ret
        exact ⟨rfl, HW.out⟩
set_option maxHeartbeats 400000 in
theorem tells_none (v : BitVec 32) (A : Option Addr) (n cap : Nat) (at_ : Int) (w : World) (hz : n = 0 ∨ U v = 0) (hl : n ≤ 140737488355328) (ht : Tab w) (hg : 0 < w.heap.size) :
    Calls Tryd.prog 5 #[.slice A n cap, .int .i64 at_, .int .u32 (U v)] w fun e w' => e = .returned (.bool true) ∧ Below w.heap.size w w' := by
  by_cases h0 : n = 0
  · subst h0
    go_enter Tryd.func5, Tryd.ntmps5
    go_wp2_with fail
    refine (shown_any _ ht hg).mono ?_
    rintro e w1 ⟨rfl, hbw⟩
    have HBW := Lib.hid hbw
    clear hbw ht
    go_wp2
    go_ret
    exact ⟨rfl, HBW.out⟩
  · have e1 : ((n : Int) == 0) = false := by rw [beq_eq_false_iff_ne]; omega
    have e2 : (U v == 0) = true := by rw [beq_iff_eq]; omega
    clear hz
    go_enter Tryd.func5, Tryd.ntmps5
    go_wp2_with fail
    refine (shown_any _ ht hg).mono ?_
    rintro e w1 ⟨rfl, hbw⟩
    have HBW := Lib.hid hbw
    clear hbw ht
    go_wp2
    go_ret
    exact ⟨rfl, HBW.out⟩
theorem lawTells (v : BitVec 32) (A : Option Addr) (bs : List UInt8) (n cap : Nat) (at_ : Int) (w : World) (hn : bs.length = n) (hat : -9223372036854775808 ≤ at_ ∧ at_ < 9223372036854775808)
    (hl : n ≤ 140737488355328) (hb : BAt w A bs) (ht : Tab w) (hg : 0 < w.heap.size) :
    Calls Tryd.prog 5 #[.slice A n cap, .int .i64 at_, .int .u32 (U v)] w fun e w' => e = .returned (.bool true) ∧ Below w.heap.size w w' := by
  by_cases h : n = 0 ∨ U v = 0
  · exact tells_none v A n cap at_ w h hl ht hg
  · exact tells_core v A bs n cap at_ w hn (by omega) (fun e => h (.inr e)) hat hl hb ht hg
end Go.Proofs.YtamjfcconhihhaaDoor.Crc
