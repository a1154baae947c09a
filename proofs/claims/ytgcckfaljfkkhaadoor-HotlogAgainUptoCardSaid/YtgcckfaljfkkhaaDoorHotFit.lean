/- The hot disk's 'fit': the first place for so many sectors side by side. -/
import Derived.Test.YtgcckfaljfkkhaaDoorHotTake
namespace Go.Proofs.YtgcckfaljfkkhaaDoor.Hot
open Go Go.RowKit Mem Pl
/-- What 'fit' answers. -/
def fitV (dev n : Nat) (r : Option Nat) : Value := match r with
  | some a => .tuple #[.agg #[.int .i64 (dev : Int), .int .i64 (a : Int), .int .i64 (n : Int), .bool false], .bool true]
  | none => .tuple #[.agg #[.int .i64 0, .int .i64 0, .int .i64 0, .bool false], .bool false]
def FitR (used : List Pc) (nseg n : Nat) (w1 : World) (iv : Value) (wr : World) : Prop :=
  ∃ i : Nat, i ≤ nseg ∧ iv = .int .i64 (i : Int) ∧ (∀ b, b < 16 * i → ¬ Free1 used nseg n b) ∧ wr = w1
def RunR (s n : Nat) (w1 : World) (fv kv : Value) (wr : World) : Prop :=
  ∃ k : Nat, k ≤ n - 1 ∧ kv = .int .i64 (k : Int) ∧ fv = u16V (runM s k) ∧ wr = w1
theorem pc0_one : ∀ u ∈ [Value.int .i64 0, .int .i64 0, .int .i64 0, .bool false], u.oneCell' = true := fun u hu => by
  simp at hu
  rcases hu with rfl | rfl <;> rfl
theorem pc1_one (a b c : Int) : ∀ u ∈ [Value.int .i64 a, .int .i64 b, .int .i64 c, .bool false], u.oneCell' = true := fun u hu => by
  simp at hu
  rcases hu with rfl | rfl | rfl | rfl <;> rfl
theorem load_pc {w : World} {g : Nat} {a b c : Int} {d : Bool} (h : Blk w g 36 [Value.int .i64 a, .int .i64 b, .int .i64 c, .bool d].toArray) :
    (loadVar 36 ⟨g, 0, none⟩).run Tryd.prog w = .ok (.agg #[.int .i64 a, .int .i64 b, .int .i64 c, .bool d]) w :=
  run_loadVar_mid (P := Tryd.prog) w g 0 36 [.int .i64 a, .int .i64 b, .int .i64 c, .bool d] _ (fun j v hv => by rw [Nat.zero_add, h.cell]; simpa using hv) Tryd.underlying36 rfl (by kernel_rfl)
theorem fit_below {w wr w2 : World} (hb : Below w.heap.size w wr) (hg : wr.grownBy w2 (some w.heap.size)) (_ : w2.heap.size = wr.heap.size) : Below w.heap.size w w2 :=
  hb.grown hg hb.size (fun k hk => by injection hk with hk; omega)
theorem fit_below_d {w wr w2 : World} (hb : Below w.heap.size w wr) (hg : (wr.drewN 1).grownBy w2 (some w.heap.size)) : Below w.heap.size w w2 :=
  (below_drewN hb 1).grown hg hb.size (fun k hk => by injection hk with hk; omega)
set_option maxRecDepth 100000 in
set_option maxHeartbeats 4000000 in
theorem fit_any {w : World} {H : Nat → Prop} {h a dev : Nat} {segs : List Nat} {used : List Pc} {S U : Value} (x : HotB w H h a dev segs used S U) (hso : SegsOk used segs) (hnl : segs.length ≤ 100000) (n : Nat) (h1 : 1 ≤ n) (h16 : n ≤ 16) (ht : Tz w) (hg : 0 < w.heap.size) :
    Calls Tryd.prog 33 #[.pointer (some ⟨h, 0, none⟩), .int .i64 (n : Int)] w fun e w' => ∃ r, FitIs used segs.length n r ∧ e = .returned (fitV dev n r) ∧ Below w.heap.size w w' := by
  have HX := Lib.hid x
  have HT := Lib.hid ht
  have HTG := Lib.hid hg
  have HSO := Lib.hid hso
  have c1 := x.c1
  have c2 := x.c2
  have hlt := x.blk.lt
  obtain ⟨AS, cS, rfl⟩ := x.segs.shape
  clear x ht hso hg
  go_enter Tryd.func33, Tryd.ntmps33
  go_wp2_with fail
  have hb1 : Below w.heap.size w (w.alloc (.cells #[.int .i64 0, .int .i64 0, .int .i64 0, .bool false] 36)) := below_al' _
  have HB1 := Lib.hid hb1
  have hk := Blk.new w 36 #[.int .i64 0, .int .i64 0, .int .i64 0, .bool false]
  have HK := Lib.hid hk
  have HX1 := Lib.hid (HX.out.below hb1)
  clear hb1 hk c1 c2
  have hltb := HK.out.lt
  generalize w.alloc (.cells #[.int .i64 0, .int .i64 0, .int .i64 0, .bool false] 36) = w1 at *
  have c1 := HX1.out.c1
  have c2 := HX1.out.c2
  go_wp2_with fail
  go_loopw [14] (fun iv wr => FitR used segs.length n w1 iv wr) (fun iv _ => segs.length - (intOf iv).toNat)
  case atStart => exact ⟨0, by omega, rfl, fun b hb => by omega, rfl⟩
  case round =>
    obtain ⟨i, hi, rfl, hpre, rfl⟩ := hrel
    have HPRE := Lib.hid hpre
    clear hpre
    by_cases hlt' : i < segs.length
    · have hiI : (i : Int) < (segs.length : Int) := by omega
      obtain ⟨s, hs⟩ : ∃ s, segs[i]? = some s := ⟨_, List.getElem?_eq_getElem hlt'⟩
      obtain ⟨g, c, e, hsc, _, _⟩ := HX1.out.seg hs
      injection e with e1 _ e2
      subst e1 e2
      have hs6 := (HSO.out i s hs).1
      have HS := Lib.hid hs
      unfold u16V at hsc
      clear hs
      have hx16 : bits .xor .u16 IntKind.u16.max (s : Int) = ((runM s 0 : Nat) : Int) := u16_xor_nat 65535 s (by decide) hs6
      go_wp2_with fail
      go_loopw [8, 23] (fun fv kv wr' => RunR s n wr fv kv wr') (fun _ kv _ => n - (intOf kv).toNat)
      case atStart => exact ⟨0, by omega, rfl, rfl, rfl⟩
      case round =>
        obtain ⟨k, hk, rfl, rfl, rfl⟩ := hrel
        have HKN := Lib.hid hk
        have hrl := runM_lt s hs6 k
        have HSTEP := Lib.hid (show Value.int .u16 (bits .and .u16 ((runM s k : Nat) : Int) (((runM s k : Nat) : Int) / 2)) = u16V (runM s (k + 1)) by
          have hshr : ((runM s k : Nat) : Int) / (2 : Int) = ((runM s k >>> 1 : Nat) : Int) := by rw [Nat.shiftRight_eq_div_pow]; omega
          rw [hshr, u16_and_nat (runM s k) (runM s k >>> 1) hrl (by have := Nat.shiftRight_le (runM s k) 1; omega)]
          rfl)
        unfold u16V
        by_cases hlk : k < n - 1
        · have hkI : (k : Int) < (n : Int) - 1 := by omega
          go_wp2_with fail
          go_roundw
          case rel => exact ⟨k + 1, by omega, by simp, HSTEP.out, rfl⟩
          case measure => simp [intOf]; omega
        · obtain rfl : k = n - 1 := by omega
          have hkI : ¬ ((n - 1 : Nat) : Int) < (n : Int) - 1 := by omega
          by_cases hz : runM s (n - 1) = 0
          · have hzb : (((runM s (n - 1) : Nat) : Int) != 0) = false := by rw [hz]; rfl
            have HN := Lib.hid (fit_next HSO.out HS.out h1 h16 hz HPRE.out)
            go_wp2_with fail
            go_roundw
            case rel => exact ⟨i + 1, by omega, by simp, HN.out, rfl⟩
            case measure => simp [intOf]; omega
          · have hzb : (((runM s (n - 1) : Nat) : Int) != 0) = true := by rw [bne_iff_ne]; omega
            obtain ⟨j, hj, hlow⟩ := low_ex hz hrl
            have HF := Lib.hid (fit_found HSO.out HS.out h1 h16 hlow hj HPRE.out)
            have HLOW := Lib.hid hlow
            clear HSTEP hx16
            generalize runM s (n - 1) = f at *
            clear hlow
            have HTZ := Lib.hid (fun w' (hb : Below wr.heap.size wr w') => tz_any w' f j hrl HLOW.out hj ((HT.out.below HB1.out HTG.out).below hb (Nat.lt_of_lt_of_le HTG.out HB1.out.size)))
            go_wp2_with fail
            have hwm : IntKind.i64.wrap ((i : Int) * 16) = (i : Int) * 16 := IntWalk.i64_in _ (by omega)
            have hwa : IntKind.i64.wrap ((i : Int) * 16 + (j : Int)) = (i : Int) * 16 + (j : Int) := IntWalk.i64_in _ (by omega)
            refine Ord.region_ordM [7] [5, 8] [0, 1, 2, 3, 4, 6, 9, 5, 7, 8, 10, 11, 12] (by kernel_rfl) (by kernel_rfl) (by kernel_rfl) (by kernel_rfl) (Ord.ord_run [0, 1, 2, 3, 4, 6, 9] [_, _, _, _, _, _, _] rfl (by kernel_rfl) ?_)
            go_wp2_with fail
            refine Ord.nx_ord (Ord.ord_pure (.int .i64 ((i : Int) * 16)) rfl (by kernel_rfl) rfl (fun w' => by first | (go_simp; done) | (go_simp; exact hwm)) ?_)
            simp only [Act.put, List.setIfInBounds_toArray]
            refine Ord.ord_oneM rfl (by kernel_rfl) ?_
            go_wp2_with fail
            refine (HTZ.out _ (below_drewN (Below.refl _ _) 1)).mono ?_
            rintro e _ ⟨rfl, rfl⟩
            go_wp2_with fail
            refine Ord.nx_and (Below.refl _ _) (Ord.ord_pure (.int .i64 ((i : Int) * 16 + (j : Int))) rfl (by kernel_rfl) rfl (fun w' => by first | (go_simp; done) | (go_simp; exact hwa)) ?_)
            simp only [Act.put, List.setIfInBounds_toArray]
            refine Ord.ord_all [_, _, _] rfl (by kernel_rfl) ?_
            go_wp2_with
              (refine wpList_store_all rfl 36 (.tmp 4) (.tmp 42) rfl w.heap.size 36 [.int .i64 0, .int .i64 0, .int .i64 0, .bool false] [.int .i64 (dev : Int), .int .i64 ((i : Int) * 16 + (j : Int)), .int .i64 (n : Int), .bool false] rfl rfl (show Blk wr.drew _ _ _ from HK.out) rfl (by kernel_rfl) (pc1_one _ _ _) ?_
               intro w2 hb2 hg2 hz2
               have HX2 := Lib.hid hb2
               have HG2 := Lib.hid hg2
               have HZ2 := Lib.hid hz2
               clear hb2 hg2 hz2)
            refine Ord.nx_end ?_
            go_wp2_with fail
            have hl := load_pc HX2.out
            refine bodyPost_ret (v := .tuple #[.agg #[.int .i64 (dev : Int), .int .i64 ((i : Int) * 16 + (j : Int)), .int .i64 (n : Int), .bool false], .bool true]) ?_ rfl ⟨_, HF.out, ?_, ?_⟩
            · simp [results, Tryd.results33, asAddr, hl]
            · show _ = Ending.returned (.tuple #[.agg #[.int .i64 (dev : Int), .int .i64 ((16 * i + j : Nat) : Int), .int .i64 (n : Int), .bool false], .bool true])
              rw [show ((16 * i + j : Nat) : Int) = (i : Int) * 16 + (j : Int) by omega]
            · exact fit_below_d HB1.out HG2.out
    · have hiI : ¬ (i : Int) < (segs.length : Int) := by omega
      obtain rfl : i = segs.length := by omega
      have k0 := (HK.out.cell 0).trans (show _ = some (.int .i64 0) from rfl)
      go_wp2_with
        (refine wpList_store_all rfl 36 (.tmp 4) (.tmp 44) rfl w.heap.size 36 [.int .i64 0, .int .i64 0, .int .i64 0, .bool false] [.int .i64 0, .int .i64 0, .int .i64 0, .bool false] rfl rfl HK.out rfl (by kernel_rfl) (pc0_one) ?_
         intro w2 hb2 hg2 hz2
         have HX2 := Lib.hid hb2
         have HG2 := Lib.hid hg2
         have HZ2 := Lib.hid hz2
         clear hb2 hg2 hz2)
      have hl := load_pc HX2.out
      refine bodyPost_ret (v := .tuple #[.agg #[.int .i64 0, .int .i64 0, .int .i64 0, .bool false], .bool false]) ?_ rfl ⟨none, fit_none HPRE.out, rfl, fit_below HB1.out HG2.out HZ2.out⟩
      simp [results, Tryd.results33, asAddr, hl]
end Go.Proofs.YtgcckfaljfkkhaaDoor.Hot
