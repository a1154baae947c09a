/- The walk of 'PlantKeeps': what was flushed stays, whatever a boot keeps of the rest. -/
import Derived.Test.YtomncfiklkhfjaaPlTwo
import Derived.Test.YtomncfiklkhfjaaPlTapesK
import Derived.Test.YtomncfiklkhfjaaPlKeepsP
import Derived.Deep.QuietTactic
import Derived.BigQuiet
namespace Go.Proofs.Ytomncfiklkhfjaa.Pl.Keeps
open Go Go.RowKit Mem
theorem run_make16 (w : World) : (Instr.makeSlice 28 (.int .i64 16) (.int .i64 16)).run Try.prog w = .ok (.slice (some ⟨w.heap.size, 0, none⟩) 16 16) (w.alloc (.cells ((List.replicate 16 (0 : UInt8)).map B8).toArray 5)) := by kernel_rfl
theorem tmod16 (i : Nat) : ((i : Int)).tmod 16 = ((i % 16 : Nat) : Int) := by
  rw [IntWalk.rem_in _ _ (by omega)]
  omega
/-- The first loop. -/
def R1 (W : World) (a : Nat) (bs : List UInt8) (n : Nat) (iv : Value) (wr : World) : Prop :=
  ∃ (i : Nat) (F : Nat → Prop), i ≤ n ∧ iv = .int .i64 (i : Int) ∧ Below W.heap.size W wr ∧ St W.heap.size wr F a (KM (List.replicate 16 zeros) (ws1 bs i) i) i
/-- The second. -/
def R2 (W : World) (F : Nat → Prop) (a g : Nat) (p : PM) (c : Nat) (bs : List UInt8) (n : Nat) (iv : Value) (wr : World) : Prop :=
  ∃ i : Nat, i ≤ n ∧ iv = .int .i64 (i : Int) ∧ Below W.heap.size W wr ∧ St W.heap.size wr F a p c ∧ Blk wr g 5 (cellsOf (old bs i))
/-- The third. -/
def R3 (W : World) (a g : Nat) (O ts : List UInt8) (s m : Nat) (iv : Value) (wr : World) : Prop :=
  ∃ (i : Nat) (F : Nat → Prop), i ≤ m ∧ iv = .int .i64 (i : Int) ∧ Below W.heap.size W wr ∧ St W.heap.size wr F a (KM (O.map fullB) (ws2 ts i) (s + i)) (s + i) ∧ Held wr F (some ⟨g, 0, none⟩) O
theorem add_flat (g k : Nat) : (Addr.add ⟨g, 0, none⟩ k) = ⟨g, k, none⟩ := by
  unfold Addr.add
  split
  · rename_i h
    subst h
    rfl
  · simp
theorem V8_beq (x y : UInt8) : (V8 x == V8 y) = (x == y) := by
  rw [Bool.eq_iff_iff, beq_iff_eq, beq_iff_eq]
  exact V8_eq
theorem add_none (ad : Addr) : ad.add 0 = ad := rfl
theorem held_other {w w' : World} {F G : Nat → Prop} {A : Option Addr} {bs : List UInt8} (h : Held w F A bs) (k : Held w G A bs) (hm : Mods w.heap.size F w w') : Held w' G A bs :=
  ⟨(h.mods hm).1, fun ad hA => ⟨(k.2 ad hA).1, Nat.lt_of_lt_of_le (k.2 ad hA).2 hm.size⟩⟩
theorem held_new {w w' : World} {F : Nat → Prop} {A : Option Addr} {bs : List UInt8} (h : Held w F A bs) (hb : Below w.heap.size w w') : Held w' (New w w') A bs :=
  ⟨(h.below hb).1, fun ad hA => ⟨fun hN => by have h1 := hN.1; have h2 := (h.2 ad hA).2; omega, Nat.lt_of_lt_of_le (h.2 ad hA).2 hb.size⟩⟩
/-- The last loop. -/
def R4 (W : World) (Fp Fq : Nat → Prop) (a b g : Nat) (P Q : PM) (c1 c2 : Nat) (O : List UInt8) (iv : Value) (wr : World) : Prop :=
  ∃ i : Nat, i ≤ 16 ∧ iv = .int .i64 (i : Int) ∧ Below W.heap.size W wr ∧ St W.heap.size wr Fp a P c1 ∧ St W.heap.size wr Fq b Q c2 ∧ Held wr Fp (some ⟨g, 0, none⟩) O
/-- The loop within it. -/
def R5 (w : World) (o : UInt8) (ts : List UInt8) (k : Nat) (x : UInt8) (m : Nat) (mv iv : Value) (wr : World) : Prop :=
  ∃ i : Nat, i ≤ m ∧ iv = .int .i64 (i : Int) ∧ mv = .bool (mayB o ts k x i) ∧ Below w.heap.size w wr
set_option maxRecDepth 100000 in
set_option maxHeartbeats 16000000 in
theorem lawKeeps (A : Option Addr) (bs : List UInt8) (n cap : Nat) (A2 : Option Addr) (ts : List UInt8) (m cap2 : Nat) (AK : Option Addr) (keep : List Int) (nk ck : Nat) (W : World)
    (hb : BAt W A bs) (hn : bs.length = n) (hnm : n ≤ 1048576) (hb2 : BAt W A2 ts) (hn2 : ts.length = m) (hnm2 : m ≤ 1048576) (hk : IAt W AK keep) (hkl : keep.length = nk) (hnk : nk ≤ 9223372036854775807) :
    Calls Try.prog 10 #[.slice A n cap, .slice A2 m cap2, .slice AK nk ck] W fun e W' => e = .returned (.bool true) ∧ Below W.heap.size W W' := by
  have HB := Lib.hid hb
  have HN := Lib.hid hn
  have HT := Lib.hid hb2
  have HM := Lib.hid hn2
  have HK := Lib.hid hk
  have HKL := Lib.hid hkl
  have hmk := run_make16
  clear hb hn hb2 hn2 hk hkl
  go_enter Try.func10, Try.ntmps10
  go_wp2_with fail
  refine (shown_any W).mono ?_
  rintro e w0 ⟨rfl, hb0⟩
  have HW0 := Lib.hid hb0
  clear hb0
  go_wp2_with fail
  have hn := new_any (w0.alloc (.cells #[.int .i64 16] 3)) (some ⟨w0.heap.size, 0, none⟩) none 1 0 1 0 [16] [] (iat_new w0 [16] _ rfl _) (.inl rfl) rfl rfl (by omega) (by omega)
  rw [KM_new] at hn
  refine hn.mono ?_
  clear hn
  rintro e w1 ⟨hb1, ⟨h, _⟩ | ⟨a, p, h, rfl, hp⟩⟩
  · cases h
  injection h with h
  subst h
  have hB0 : W.heap.size ≤ (w0.alloc (.cells #[.int .i64 16] 3)).heap.size := by have := HW0.out.size; simp; omega
  have HW1 : Hid (Below W.heap.size W w1) := Lib.hid (HW0.out.trans (((Below.refl _ w0).alloc HW0.out.size _).trans (hb1.mono hB0)))
  obtain ⟨F, hs⟩ : ∃ F, St W.heap.size w1 F a (KM (List.replicate 16 zeros) [] 0) 0 := ⟨_, St.new hp hB0 KM_new⟩
  have HS1 := Lib.hid hs
  clear hb1 hp hB0 hs
  go_wp2_with fail
  go_loopw [10] (fun iv wr => R1 W a bs n iv wr) (fun iv _ => n - (intOf iv).toNat)
  case atStart => exact ⟨0, F, by omega, rfl, HW1.out, HS1.out⟩
  case round =>
    obtain ⟨i, F2, hi, rfl, hbl, hst⟩ := hrel
    have HBL := Lib.hid hbl
    have HST := Lib.hid hst
    clear hbl hst
    by_cases hlt : i < n
    · have hiN : (i : Int) < (n : Int) := by omega
      have ht := tmod16 i
      have hnx := ws1_next bs i
      obtain ⟨ad, hA, hcb⟩ := Tapes.byteAt HB.out (i := i) (by rw [HN.out]; omega)
      subst hA
      have hcell := hcb wr HBL.out
      clear hcb
      obtain ⟨k, hk, hk16⟩ : ∃ k, i % 16 = k ∧ k < 16 := ⟨_, rfl, by omega⟩
      rw [hk] at ht hnx
      generalize bs.getD i 0 = x at *
      go_wp2_with fail
      refine (full_any wr x).mono ?_
      rintro e w3 ⟨g3, rfl, ho3, hb3⟩
      have HW3 := Lib.hid (HBL.out.trans (hb3.mono HBL.out.size))
      have HX3 := Lib.hid (HST.out.below hb3)
      have hc3 := HX3.out.write HW3.out.size (by omega) 0 (k : Int) (some ⟨g3, 0, none⟩) 64 64 (fullB x) ho3.bat (fullB_len x)
      rw [KM_write _ _ _ k _ hk16 (fullB_len x), hnx] at hc3
      dsimp only at hc3
      clear ho3 hb3 hcell
      go_wp2_with fail
      refine hc3.mono ?_
      clear hc3
      rintro e w4 ⟨rfl, hs4, hm4⟩
      have HW4 := Lib.hid (St.bel HX3.out HW3.out HW3.out.size hm4)
      have HS4 := Lib.hid hs4
      clear hs4 hm4
      go_wp2_with fail
      go_roundw
      case rel => exact ⟨i + 1, _, by omega, by simp, HW4.out, HS4.out⟩
      case measure => simp [intOf]; omega
    · obtain rfl : n = i := by omega
      go_wp2_with fail
      have hc := HST.out.flush HBL.out.size (by omega) 0
      rw [KM_flush] at hc
      dsimp only at hc
      refine hc.mono ?_
      clear hc
      rintro e w4 ⟨rfl, hs4, hm4⟩
      have HW4 := Lib.hid (St.bel HST.out HBL.out HBL.out.size hm4)
      obtain ⟨F4, hs4'⟩ : ∃ F4, St W.heap.size w4 F4 a (KM ((old bs n).map fullB) [] (n + 1)) (n + 1) := ⟨_, hs4⟩
      have HS4 := Lib.hid hs4'
      clear hs4 hm4 hs4'
      go_wp2_with fail
      have hB4 : Below w4.heap.size w4 (w4.alloc (.cells ((List.replicate 16 (0 : UInt8)).map B8).toArray 5)) := below_al' _
      have HW5 := Lib.hid (HW4.out.trans (hB4.mono HW4.out.size))
      have HS5 := Lib.hid (HS4.out.below hB4)
      have HBK5 : Hid (Blk (w4.alloc (.cells ((List.replicate 16 (0 : UInt8)).map B8).toArray 5)) w4.heap.size 5 (cellsOf (old bs 0))) := Lib.hid (Blk.new w4 5 _)
      have HFG : Hid (∀ g, F4 g → ¬ g = w4.heap.size) := Lib.hid fun g hg => by
        have h1 := (HS4.out.lt g hg).2
        omega
      have hgW : W.heap.size ≤ w4.heap.size := HW4.out.size
      clear hB4 HST HBL HW1 HW0 HS1
      go_wp2_with fail
      generalize w4.heap.size = g at *
      go_loopw [13] (fun iv wr => R2 W F4 a g (KM ((old bs n).map fullB) [] (n + 1)) (n + 1) bs n iv wr) (fun iv _ => n - (intOf iv).toNat)
      case atStart => exact ⟨0, by omega, rfl, HW5.out, HS5.out, HBK5.out⟩
      case round =>
        obtain ⟨i, hi, rfl, hbl, hst, hbk⟩ := hrel
        have HBL := Lib.hid hbl
        have HST := Lib.hid hst
        have HBK := Lib.hid hbk
        clear hbl hst hbk HW5 HS5 HBK5 HW4 HS4
        by_cases hlt : i < n
        · have hiN : (i : Int) < (n : Int) := by omega
          have ht := tmod16 i
          have hnx := old_next bs i
          obtain ⟨ad, hA, hcb⟩ := Tapes.byteAt HB.out (i := i) (by rw [HN.out]; omega)
          subst hA
          have hcell := hcb wr HBL.out
          clear hcb
          obtain ⟨k, hk, hk16⟩ : ∃ k, i % 16 = k ∧ k < 16 := ⟨_, rfl, by omega⟩
          rw [hk] at ht hnx
          generalize bs.getD i 0 = x at *
          have hcz := HBK.out.byte (k := k) (by rw [old_len]; omega)
          have hfz := HBK.out.frozen k
          have HN3 := Lib.hid (HBK.out.setByte k x)
          have hm3 : Mods wr.heap.size (fun j => j = g) wr (wr.setCell ⟨g, k, none⟩ (.int .u8 (V8 x))) := (Mods.refl wr.heap.size (fun j => j = g) wr).setCell (p := ⟨g, k, none⟩) (.inl rfl) _
          have HS3 := Lib.hid ((HST.out.beside hm3 fun j hj hF => HFG.out j hF hj).1)
          have HW3 : Hid (Below W.heap.size W (wr.setCell ⟨g, k, none⟩ (.int .u8 (V8 x)))) := Lib.hid (HBL.out.trans ((hm3.mono HBL.out.size fun _ _ h => h).below fun j hj he => by omega))
          clear hm3
          go_wp2_with fail
          go_roundw
          case rel =>
            refine ⟨i + 1, by omega, by simp, HW3.out, HS3.out, ?_⟩
            rw [hnx]
            exact HN3.out
          case measure => simp [intOf]; omega
        · obtain rfl : n = i := by omega
          have HH : Hid (Held wr F4 (some ⟨g, 0, none⟩) (old bs n)) := Lib.hid ⟨HBK.out.bat, fun ad hA => by
            injection hA with hA
            subst hA
            exact ⟨fun hF => HFG.out g hF rfl, HBK.out.lt⟩⟩
          have hOl := old_len bs n
          generalize old bs n = O at *
          clear HFG HBK
          go_wp2_with fail
          go_loopw [14] (fun iv wr => R3 W a g O ts (n + 1) m iv wr) (fun iv _ => m - (intOf iv).toNat)
          case atStart => exact ⟨0, F4, by omega, rfl, HBL.out, HST.out, HH.out⟩
          case round =>
            obtain ⟨i, F5, hi, rfl, hbl, hst, hhe⟩ := hrel
            have HBL5 := Lib.hid hbl
            have HST5 := Lib.hid hst
            have HH5 := Lib.hid hhe
            clear hbl hst hhe HBL HST HH
            by_cases hlt : i < m
            · have hiN : (i : Int) < (m : Int) := by omega
              have ht : (3 * (i : Int)).tmod 16 = ((3 * i % 16 : Nat) : Int) := by rw [← tmod16 (3 * i)]; congr 1
              have hnx := ws2_next ts i
              have hwr : IntKind.i64.wrap (3 * (i : Int)) = 3 * (i : Int) := IntWalk.i64_in _ (by omega)
              obtain ⟨ad, hA, hcb⟩ := Tapes.byteAt HT.out (i := i) (by rw [HM.out]; omega)
              subst hA
              have hcell := hcb wr HBL5.out
              clear hcb
              obtain ⟨k, hk, hk16⟩ : ∃ k, 3 * i % 16 = k ∧ k < 16 := ⟨_, rfl, by omega⟩
              rw [hk] at ht hnx
              generalize ts.getD i 0 = x at *
              go_wp2_with fail
              refine (full_any wr x).mono ?_
              rintro e w3 ⟨g3, rfl, ho3, hb3⟩
              have HW3 := Lib.hid (HBL5.out.trans (hb3.mono HBL5.out.size))
              have HX3 := Lib.hid (HST5.out.below hb3)
              have HH3 := Lib.hid (HH5.out.below hb3)
              have hc3 := HX3.out.write HW3.out.size (by omega) 0 (k : Int) (some ⟨g3, 0, none⟩) 64 64 (fullB x) ho3.bat (fullB_len x)
              rw [KM_write _ _ _ k _ hk16 (fullB_len x), hnx] at hc3
              dsimp only at hc3
              clear ho3 hb3 hcell
              go_wp2_with fail
              refine hc3.mono ?_
              clear hc3
              rintro e w4 ⟨rfl, hs4, hm4⟩
              have HW4 := Lib.hid (St.bel HX3.out HW3.out HW3.out.size hm4)
              have HS4 := Lib.hid hs4
              have HH4 := Lib.hid (HH3.out.mods hm4)
              clear hs4 hm4
              go_wp2_with fail
              go_roundw
              case rel => exact ⟨i + 1, _, by omega, by simp, HW4.out, HS4.out, HH4.out⟩
              case measure => simp [intOf]; omega
            · obtain rfl : m = i := by omega
              go_wp2_with fail
              refine (HST5.out.copy HBL5.out.size (by omega)).mono ?_
              rintro e w5 ⟨b, rfl, hs5, hq5, hd5, hb5⟩
              have HW5 := Lib.hid (HBL5.out.trans (hb5.mono HBL5.out.size))
              have HS5 := Lib.hid hs5
              have HQ5 := Lib.hid hq5
              have HD5 := Lib.hid hd5
              have HP5 := Lib.hid (HH5.out.below hb5)
              have HG5 := Lib.hid (held_new HH5.out hb5)
              clear hs5 hq5 hd5 hb5 HBL5 HST5 HH5
              go_wp2_with fail
              obtain ⟨H, hbe, hgood⟩ := KM_boot keep O ts hOl m (n + 1 + m)
              have HGD := Lib.hid hgood
              have hcp := HS5.out.boot HW5.out.size (by omega) AK nk ck keep (HK.out.below HW5.out) HKL.out (fun hne ad hA hF => by
                have h1 := Tapes.iat_lt HK.out hne ad hA
                have h2 := (HS5.out.lt _ hF).1
                omega) (by omega)
              rw [hbe] at hcp
              clear hbe hgood
              refine hcp.mono ?_
              clear hcp
              rintro e w6 ⟨rfl, hs6, hm6⟩
              have HW6 := Lib.hid (St.bel HS5.out HW5.out HW5.out.size hm6)
              have HS6 := Lib.hid hs6
              obtain ⟨hq6, hd6⟩ := HQ5.out.beside hm6 HD5.out
              have HQ6 := Lib.hid hq6
              have HD6 := Lib.hid hd6
              have HP6 := Lib.hid (HP5.out.mods hm6)
              have HG6 := Lib.hid (held_other HP5.out HG5.out hm6)
              clear hs6 hm6 hq6 hd6 HS5 HQ5 HD5 HP5 HG5 HW5
              go_wp2_with fail
              have hbe : Below w6.heap.size w6 (w6.alloc (.cells #[.int .i64 0] 3)) := below_al' _
              have HW7 := Lib.hid (HW6.out.trans (hbe.mono HW6.out.size))
              have HS7 := Lib.hid (HS6.out.below hbe)
              have HQ7 := Lib.hid (HQ6.out.below hbe)
              have HP7 := Lib.hid (HP6.out.below hbe)
              have HG7 := Lib.hid (HG6.out.below hbe)
              have hcq := HQ7.out.boot HW7.out.size (by omega) (some ⟨w6.heap.size, 0, none⟩) 1 1 [0] (iat_new w6 [0] _ rfl _) rfl (fun _ ad hA hF => by
                injection hA with hA
                subst hA
                exact absurd (HQ6.out.lt _ hF).2 (Nat.lt_irrefl _)) (by omega)
              rw [KM_boot0] at hcq
              refine hcq.mono ?_
              clear hcq
              rintro e w8 ⟨rfl, hq8, hm8⟩
              have HW8 := Lib.hid (St.bel HQ7.out HW7.out HW7.out.size hm8)
              obtain ⟨hs8, _⟩ := HS7.out.beside hm8 (disj_symm HD6.out)
              have hp8 := held_other HG7.out HP7.out hm8
              obtain ⟨Fp, Fq, c1, c2, hc1, hc2, hsp, hsq, hhp⟩ : ∃ Fp Fq c1 c2, c1 ≤ 100000000 ∧ c2 ≤ 100000000 ∧ St W.heap.size w8 Fp a (KM H [] (n + 1 + m)) c1 ∧ St W.heap.size w8 Fq b (KM (O.map fullB) [] (n + 1 + m)) c2 ∧ Held w8 Fp (some ⟨g, 0, none⟩) O := ⟨_, _, _, _, by omega, by omega, hs8, hq8, hp8⟩
              have HSP := Lib.hid hsp
              have HSQ := Lib.hid hsq
              have HHP := Lib.hid hhp
              clear hs8 hq8 hp8 hm8 hsp hsq hhp HS7 HQ7 HP7 HG7 HW7 HS6 HQ6 HD6 HP6 HG6 HW6 hbe
              generalize n + 1 + m = st at *
              go_wp2_with fail
              go_loopw [16] (fun iv wr => R4 W Fp Fq a b g (KM H [] st) (KM (O.map fullB) [] st) c1 c2 O iv wr) (fun iv _ => 16 - (intOf iv).toNat)
              case atStart => exact ⟨0, by omega, rfl, HW8.out, HSP.out, HSQ.out, HHP.out⟩
              case round =>
                obtain ⟨k, hk, rfl, hbl, hsp, hsq, hhp⟩ := hrel
                have HBL9 := Lib.hid hbl
                have HSP9 := Lib.hid hsp
                have HSQ9 := Lib.hid hsq
                have HHP9 := Lib.hid hhp
                clear hbl hsp hsq hhp HW8 HSP HSQ HHP
                by_cases hlt : k < 16
                · have hkI : (k : Int) < 16 := by omega
                  obtain ⟨x, hx, hmay⟩ := HGD.out.2 k hlt
                  have HMAY := Lib.hid hmay
                  have HX := Lib.hid hx
                  clear hmay hx
                  have hr1 := HSP9.out.read (by omega) 0 (k : Int)
                  rw [KM_read H st k HX.out hlt] at hr1
                  dsimp only [Option.getD] at hr1
                  rw [fullB_len] at hr1
                  go_wp2_with fail
                  refine hr1.mono ?_
                  clear hr1
                  rintro e wa ⟨A1, m1, k1, rfl, rfl, hh, hb⟩
                  have HWa := Lib.hid (HBL9.out.trans (hb.mono HBL9.out.size))
                  have HSPa := Lib.hid (HSP9.out.below hb)
                  have HSQa := Lib.hid (HSQ9.out.below hb)
                  have HHPa := Lib.hid (HHP9.out.below hb)
                  have HXa := Lib.hid hh
                  clear hh hb HBL9 HSP9 HSQ9 HHP9
                  have hr2 := HSQa.out.read (by omega) 0 (k : Int)
                  rw [KM_read (O.map fullB) st k (map_get O hOl hlt) hlt] at hr2
                  dsimp only [Option.getD] at hr2
                  rw [fullB_len] at hr2
                  go_wp2_with fail
                  refine hr2.mono ?_
                  clear hr2
                  rintro e wb ⟨A2', m2, k2, rfl, rfl, hh, hb⟩
                  have HWb := Lib.hid (HWa.out.trans (hb.mono HWa.out.size))
                  have HSPb := Lib.hid (HSPa.out.below hb)
                  have HSQb := Lib.hid (HSQa.out.below hb)
                  have HHPb := Lib.hid (HHPa.out.below hb)
                  have HXb := Lib.hid (HXa.out.below hb)
                  have HYb := Lib.hid hh
                  clear hh hb HWa HSPa HSQa HHPa HXa
                  obtain ⟨ad, hA, hcb⟩ := Tapes.byteAt HHPb.out.1 (i := k) (by rw [hOl]; omega)
                  injection hA with hA
                  subst hA
                  have hcell := hcb wb (Below.refl _ _)
                  rw [add_flat] at hcell
                  clear hcb
                  generalize hO : O.getD k 0 = o at *
                  have HO := Lib.hid hO
                  clear hO
                  go_wp2_with fail
                  refine (full_any wb o).mono ?_
                  rintro e wc ⟨g3, rfl, ho3, hb3⟩
                  have HWc := Lib.hid (HWb.out.trans (hb3.mono HWb.out.size))
                  have HSPc := Lib.hid (HSPb.out.below hb3)
                  have HSQc := Lib.hid (HSQb.out.below hb3)
                  have HHPc := Lib.hid (HHPb.out.below hb3)
                  have HXc := Lib.hid (HXb.out.below hb3)
                  have hsm := same_any A2' (some ⟨g3, 0, none⟩) _ _ 64 64 k2 64 wc (fullB_len o) (fullB_len o) (HYb.out.below hb3).1 ho3.bat
                  rw [decide_eq_true rfl] at hsm
                  clear ho3 hb3 hcell HWb HSPb HSQb HHPb HXb HYb
                  go_wp2_with fail
                  refine hsm.mono ?_
                  clear hsm
                  rintro e _ ⟨rfl, rfl⟩
                  go_wp2_with fail
                  obtain ⟨ad1, hA, hcb1⟩ := Tapes.byteAt HXc.out.1 (i := 0) (by rw [fullB_len]; omega)
                  subst hA
                  have hcx := hcb1 wc (Below.refl _ _)
                  rw [show (fullB x).getD 0 0 = x from rfl] at hcx hcb1
                  obtain ⟨ad2, hA, hcb2⟩ := Tapes.byteAt HHPc.out.1 (i := k) (by rw [hOl]; omega)
                  injection hA with hA
                  subst hA
                  have hco := hcb2 wc (Below.refl _ _)
                  rw [add_flat, HO.out] at hco
                  rw [add_none] at hcx
                  have HCX := Lib.hid hcb1
                  clear hcb1 hcb2
                  have hV := V8_beq x o
                  go_quiet (fail)
                  go_wp2_with fail
                  go_loopw [22, 23] (fun mv iv wr => R5 wc o ts k x m mv iv wr) (fun _ iv _ => m - (intOf iv).toNat)
                  case atStart => exact ⟨0, by omega, rfl, rfl, below_drewN (Below.refl _ _) _⟩
                  case round =>
                    obtain ⟨i, hi, rfl, rfl, hbl⟩ := hrel
                    have HBd := Lib.hid hbl
                    clear hbl hV hcx hco
                    by_cases hlt2 : i < m
                    · have hiM : (i : Int) < (m : Int) := by omega
                      have hnx : mayB o ts k x (i + 1) = (mayB o ts k x i || ((3 * i) % 16 == k && x == ts.getD i 0)) := rfl
                      by_cases hmb : mayB o ts k x i = true
                      · rw [hmb, Bool.true_or] at hnx
                        rw [hmb]
                        go_wp2_with fail
                        go_quiet (fail)
                        go_wp2_with fail
                        go_roundw
                        case rel => exact ⟨i + 1, by omega, by simp, by rw [hnx], below_drewN HBd.out _⟩
                        case measure => simp [intOf]; omega
                      · have hmf : mayB o ts k x i = false := by simpa using hmb
                        have ht : (3 * (i : Int)).tmod 16 = ((3 * i % 16 : Nat) : Int) := by rw [← tmod16 (3 * i)]; congr 1
                        have hwr : IntKind.i64.wrap (3 * (i : Int)) = 3 * (i : Int) := IntWalk.i64_in _ (by omega)
                        obtain ⟨k2', hk2, hk216⟩ : ∃ k2, 3 * i % 16 = k2 ∧ k2 < 16 := ⟨_, rfl, by omega⟩
                        rw [hk2] at ht hnx
                        rw [hmf, Bool.false_or] at hnx
                        rw [hmf]
                        by_cases hkk : k2' = k
                        · subst hkk
                          have hE : ((k2' : Int) == (k2' : Int)) = true := by simp
                          obtain ⟨ad3, hA, hcb3⟩ := Tapes.byteAt HT.out (i := i) (by rw [HM.out]; omega)
                          subst hA
                          have hct := hcb3 wr (HWc.out.trans (HBd.out.mono HWc.out.size))
                          clear hcb3
                          have hcx := HCX.out wr HBd.out
                          rw [add_none] at hcx
                          rw [beq_self_eq_true, Bool.true_and] at hnx
                          generalize ts.getD i 0 = y at *
                          have hV := V8_beq x y
                          go_wp2_with fail
                          go_quiet (fail)
                          go_wp2_with fail
                          go_roundw
                          case rel => exact ⟨i + 1, by omega, by simp, by rw [hnx], below_drewN HBd.out _⟩
                          case measure => simp [intOf]; omega
                        · have hE : ((k2' : Int) == (k : Int)) = false := by rw [beq_eq_false_iff_ne]; omega
                          have hE2 : (k2' == k) = false := by rw [beq_eq_false_iff_ne]; exact hkk
                          have hE3 : decide (k2' = k) = false := decide_eq_false hkk
                          have hE4 : decide ((k2' : Int) = (k : Int)) = false := decide_eq_false (by omega)
                          rw [hE2, Bool.false_and] at hnx
                          go_wp2_with fail
                          go_quiet (fail)
                          go_wp2_with fail
                          go_roundw
                          case rel => exact ⟨i + 1, by omega, by simp, by rw [hnx], below_drewN HBd.out _⟩
                          case measure => simp [intOf]; omega
                    · obtain rfl : m = i := by omega
                      have hmy := HMAY.out
                      have hcx := HCX.out wr HBd.out
                      rw [add_none] at hcx
                      have HWd := Lib.hid (HWc.out.trans (HBd.out.mono HWc.out.size))
                      have HSPd := Lib.hid (HSPc.out.below HBd.out)
                      have HSQd := Lib.hid (HSQc.out.below HBd.out)
                      have HHPd := Lib.hid (HHPc.out.below HBd.out)
                      have HXd := Lib.hid (HXc.out.below HBd.out)
                      clear HWc HSPc HSQc HHPc HXc HBd HCX
                      go_wp2_with fail
                      refine (full_any wr x).mono ?_
                      rintro e we ⟨g4, rfl, ho4, hb4⟩
                      have HWe := Lib.hid (HWd.out.trans (hb4.mono HWd.out.size))
                      have HSPe := Lib.hid (HSPd.out.below hb4)
                      have HSQe := Lib.hid (HSQd.out.below hb4)
                      have HHPe := Lib.hid (HHPd.out.below hb4)
                      have hsm := same_any (some ad1) (some ⟨g4, 0, none⟩) _ _ 64 64 k1 64 we (fullB_len x) (fullB_len x) (HXd.out.below hb4).1 ho4.bat
                      rw [decide_eq_true rfl] at hsm
                      clear ho4 hb4 hcx HWd HSPd HSQd HHPd HXd
                      go_wp2_with fail
                      refine hsm.mono ?_
                      clear hsm
                      rintro e _ ⟨rfl, rfl⟩
                      go_wp2_with fail
                      go_roundw
                      case rel => exact ⟨k + 1, by omega, by simp, HWe.out, HSPe.out, HSQe.out, HHPe.out⟩
                      case measure => simp [intOf]; omega
                · obtain rfl : k = 16 := by omega
                  go_wp2_with fail
                  go_ret
                  exact ⟨rfl, HBL9.out⟩
end Go.Proofs.Ytomncfiklkhfjaa.Pl.Keeps
