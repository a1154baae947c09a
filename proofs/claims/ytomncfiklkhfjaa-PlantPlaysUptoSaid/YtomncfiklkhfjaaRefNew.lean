/- The reference's 'New' of a plant. -/
import Derived.Test.YtomncfiklkhfjaaFold12
import Derived.Deep.CutRange
namespace Go.Proofs.Ytomncfiklkhfjaa.Ref
open Go Go.RowKit Mem Pl
variable {S : Nat → Prop}
set_option maxRecDepth 100000 in
set_option maxHeartbeats 2000000 in
theorem most_any (w : World) (r : Nat) (A1 A2 : Option Addr) (n1 n2 k1 k2 : Nat) (zs1 zs2 : List Int) (h0 : w.cell? ⟨r, 0, none⟩ = some (.slice A1 n1 k1)) (hc1 : w.cell? ⟨r, 1, none⟩ = some (.slice A2 n2 k2)) (h1 : IAt w A1 zs1) (h2 : IAt w A2 zs2) (hl1 : zs1.length = n1) (hl2 : zs2.length = n2) (hn : n1 + n2 ≤ 12)
    (i : Nat) (z : Int) (hz : (zs1 ++ zs2)[i]? = some z) :
    Calls Try.prog 65 #[.pointer (some ⟨r, 0, none⟩), .int .i64 (i : Int)] w fun e w' => e = .returned (.int .i64 z) ∧ ∃ k, w' = w.drewN k := by
  by_cases hi : i < n1
  · rw [List.getElem?_append_left (by omega)] at hz
    obtain ⟨ad, rfl, hc⟩ : ∃ ad, A1 = some ad ∧ w.cell? (ad.add i) = some (.int .i64 z) := by
      rcases h1 with h | ⟨ad, hA, hc⟩
      · rw [h] at hz; simp at hz
      · exact ⟨ad, hA, hc i z hz⟩
    have hiI : (i : Int) < (n1 : Int) := by omega
    clear h1 h2 hz hl1 hl2
    go_enter Try.func65, Try.ntmps65
    go_wp2_with fail
    go_ret
    exact ⟨rfl, 0, rfl⟩
  · rw [List.getElem?_append_right (by omega)] at hz
    have hk : (i : Int) - (n1 : Int) = ((i - n1 : Nat) : Int) := by omega
    have hi2 : i - n1 < n2 := by have := (List.getElem?_eq_some_iff.1 hz).1; omega
    obtain ⟨ad, rfl, hc⟩ : ∃ ad, A2 = some ad ∧ w.cell? (ad.add (i - n1)) = some (.int .i64 z) := by
      rcases h2 with h | ⟨ad, hA, hc⟩
      · rw [h] at hz; simp at hz
      · exact ⟨ad, hA, hc _ z (by rw [← hl1]; exact hz)⟩
    have hiI : (n1 : Int) ≤ (i : Int) := by omega
    have hkI : ((i - n1 : Nat) : Int) < (n2 : Int) := by omega
    have hw : IntKind.i64.wrap ((i : Int) - (n1 : Int)) = ((i - n1 : Nat) : Int) := by rw [hk]; exact IntWalk.i64_in _ (by omega)
    have hw2 : IntKind.i64.wrap ((i - n1 : Nat) : Int) = ((i - n1 : Nat) : Int) := IntWalk.i64_in _ (by omega)
    clear h1 h2 hz hl1 hl2
    go_enter Try.func65, Try.ntmps65
    go_wp2_with fail
    refine Ord.region_ordM [] [12] [0, 1, 2, 3, 4, 5, 6, 7, 8, 9, 10, 11, 12, 13, 14, 15] (by kernel_rfl) (by kernel_rfl) (by kernel_rfl) (by kernel_rfl) (Ord.ord_run [0, 1, 2, 3, 4, 5, 6, 7, 8, 9, 10, 11] [_, _, _, _, _, _, _, _, _, _, _, _] rfl (by kernel_rfl) ?_)
    go_wp2_with fail
    refine Ord.nx_ord (Ord.ord_pure (.int .i64 ((i - n1 : Nat) : Int)) rfl (by kernel_rfl) rfl (fun w' => by first | (go_simp; done) | (go_simp; exact hw2)) ?_)
    simp only [Act.put, List.setIfInBounds_toArray, List.set_cons_zero, List.set_cons_succ]
    refine Ord.ord_all [_, _, _] rfl (by kernel_rfl) ?_
    go_wp2_with fail
    refine Ord.nx_end ?_
    go_wp2_with fail
    go_ret
    exact ⟨rfl, 1, rfl⟩
/-- 'New' gives a plant of its own blocks, or refuses. -/
def RetR (S : Nat → Prop) (w : World) (o : Option PM) (e : Ending) (w' : World) : Prop :=
  Below w.heap.size w w' ∧ ((o = none ∧ e = .returned (.tuple #[.pointer none, .int .i64 30])) ∨ ∃ (r : Nat) (p : PM), o = some p ∧ e = .returned (.tuple #[.pointer (some ⟨r, 0, none⟩), .int .i64 0]) ∧ RefAt S w' (New w w') r p)
/-- Numbers copied onto an empty row. -/
theorem wpList_copy_ints {w : World} {ops : Array Oper} {rest : List Oper} {o : Oper} {a : Act} {Q : Exit → Act → World → Prop} (hgd : o.guard = none) (s x : Operand)
    (ho : o.op = .call { callee := .builtin .append, args := #[s, x], argTypes := #[42, 42] })
    (D : Option Addr) (hs : a.eval s = .slice D 0 0) (A : Option Addr) (m d : Nat) (zs : List Int) (hx : a.eval x = .slice A m d) (hz : IAt w A zs) (hl : zs.length = m) (hm : m ≤ 1000000000)
    (h : ∀ (A' : Option Addr) (k' : Nat) (w' : World), Vec w' (New w w') 3 1 (.slice A' m k') m (zs.map intV) → Below w.heap.size w w' → wpList Try.prog ops Q rest (a.put o.dst (.slice A' m k')) w') : wpList Try.prog ops Q (o :: rest) a w := by
  refine wpList_append_ints hgd s x ho hs (Vec.nil_ w (fun _ => False) 3 1 D) A m d zs hx hz hl (by omega) fun v' w' row hv hg hr => ?_
  rw [Nat.zero_add, List.nil_append] at hv
  obtain ⟨A', k', rfl⟩ := hv.shape
  refine h A' k' w' (hv.mono fun g _ hg => ?_) ((Below.refl _ _).grown hg (Nat.le_refl _) fun g hg' => ?_)
  · rcases hg with hg | hg
    · exact hg.elim
    · exact hg
  · rcases hr with hr | ⟨g', cs, _, hf, _⟩
    · rw [hr] at hg'; cases hg'
    · exact hf.elim
/-- What stands behind the first part of 'New'. -/
def Mid (w : World) (A1 A2 : Option Addr) (n1 n2 k1 k2 : Nat) (zs1 zs2 : List Int) (pv : Value) (wc : World) : Prop :=
  ∃ (r : Nat) (B1 B2 : Option Addr) (c1 c2 : Nat), pv = .pointer (some ⟨r, 0, none⟩) ∧ Below w.heap.size w wc ∧ w.heap.size < r ∧ Blk wc w.heap.size 44 #[.slice A1 n1 k1, .slice A2 n2 k2] ∧
    Blk wc r 78 #[.slice B1 n1 c1, .slice B2 n2 c2, .slice none 0 0, .slice none 0 0, .bool false, .bool false, .int .i64 0, .int .i64 0, .int .i64 0] ∧
    Vec wc (New w wc) 3 1 (.slice B1 n1 c1) n1 (zs1.map intV) ∧ Vec wc (New w wc) 3 1 (.slice B2 n2 c2) n2 (zs2.map intV)
theorem Mid.mk {w w3 : World} {A1 A2 B1 B2 : Option Addr} {n1 n2 k1 k2 c1 c2 : Nat} {zs1 zs2 : List Int} {G1 G2 : Nat → Prop} (hb : Below w.heap.size w w3) (hs : Blk w3 w.heap.size 44 #[.slice A1 n1 k1, .slice A2 n2 k2])
    (hv1 : Vec w3 G1 3 1 (.slice B1 n1 c1) n1 (zs1.map intV)) (hG1 : ∀ g, G1 g → w.heap.size ≤ g) (hv2 : Vec w3 G2 3 1 (.slice B2 n2 c2) n2 (zs2.map intV)) (hG2 : ∀ g, G2 g → w.heap.size ≤ g) :
    Mid w A1 A2 n1 n2 k1 k2 zs1 zs2 (.pointer (some ⟨w3.heap.size, 0, none⟩)) (w3.alloc (.cells #[.slice B1 n1 c1, .slice B2 n2 c2, .slice none 0 0, .slice none 0 0, .bool false, .bool false, .int .i64 0, .int .i64 0, .int .i64 0] 78)) :=
  ⟨_, B1, B2, c1, c2, rfl, hb.trans ((below_al' _).mono hb.size), hs.lt, hs.alloc _, Blk.new _ _ _, (hv1.mono fun g hg h => ⟨hG1 g h, by have := (below_al' (w := w3) (.cells #[.slice B1 n1 c1, .slice B2 n2 c2, .slice none 0 0, .slice none 0 0, .bool false, .bool false, .int .i64 0, .int .i64 0, .int .i64 0] 78)).size; omega⟩).alloc _, (hv2.mono fun g hg h => ⟨hG2 g h, by have := (below_al' (w := w3) (.cells #[.slice B1 n1 c1, .slice B2 n2 c2, .slice none 0 0, .slice none 0 0, .bool false, .bool false, .int .i64 0, .int .i64 0, .int .i64 0] 78)).size; omega⟩).alloc _⟩
set_option maxRecDepth 100000 in
set_option maxHeartbeats 8000000 in
theorem refNew_any (w : World) (A1 A2 : Option Addr) (n1 n2 k1 k2 : Nat) (zs1 zs2 : List Int) (h1 : IAt w A1 zs1) (h2 : IAt w A2 zs2) (hl1 : zs1.length = n1) (hl2 : zs2.length = n2) (hn1 : n1 ≤ 1000000000) (hn2 : n2 ≤ 1000000000) (hS : ∀ g, w.heap.size ≤ g → S g) :
    Calls Try.prog 27 #[.agg #[.slice A1 n1 k1, .slice A2 n2 k2]] w (RetR S w (newM zs1 zs2)) := by
  have HSS := Lib.hid hS
  clear hS
  have H1 := Lib.hid h1
  have H2 := Lib.hid h2
  have HL1 := Lib.hid hl1
  have HL2 := Lib.hid hl2
  have HN1 : Hid (newM zs1 zs2 = if n1 + n2 = 0 ∨ 12 < n1 + n2 ∨ (zs1 ++ zs2).any (fun n => n < 1 || 4096 < n) = true then none
    else some { disks := zs1.map Int.toNat, tapes := zs2.map Int.toNat, devs := newDevs (zs1.map Int.toNat) (zs2.map Int.toNat), waits := [], off := false, fuse := none, steps := 0, now := 0 }) := Lib.hid (by
      unfold newM
      rw [hl1, hl2])
  clear h1 h2 hl1 hl2
  by_cases h0 : n1 + n2 = 0
  · have e : newM zs1 zs2 = none := by rw [HN1.out, if_pos (.inl h0)]
    rw [e]
    obtain rfl : n1 = 0 := by omega
    obtain rfl : n2 = 0 := by omega
    clear e h0
    go_enter Try.func27, Try.ntmps27
    go_wp2_with fail
    go_ret2
    exact ⟨below_al' _, .inl ⟨rfl, rfl⟩⟩
  · by_cases h12 : 12 < n1 + n2
    · have e : newM zs1 zs2 = none := by rw [HN1.out, if_pos (.inr (.inl h12))]
      rw [e]
      have hb0 : (((n1 : Int) + (n2 : Int)) == 0) = false := by rw [beq_eq_false_iff_ne]; omega
      have hb1 : (12 : Int) < (n1 : Int) + (n2 : Int) := by omega
      clear e h0
      go_enter Try.func27, Try.ntmps27
      go_wp2_with fail
      go_ret2
      exact ⟨below_al' _, .inl ⟨rfl, rfl⟩⟩
    · have hb0 : (((n1 : Int) + (n2 : Int)) == 0) = false := by rw [beq_eq_false_iff_ne]; omega
      have hb1 : (n1 : Int) + (n2 : Int) ≤ 12 := by omega
      have hs0 := Blk.new w 44 #[.slice A1 n1 k1, .slice A2 n2 k2]
      have c0 := (hs0.cell 0).trans (show _ = some (.slice A1 n1 k1) from rfl)
      have c1 := (hs0.cell 1).trans (show _ = some (.slice A2 n2 k2) from rfl)
      have HS0 := Lib.hid hs0
      clear hs0
      go_enter Try.func27, Try.ntmps27
      go_upto_region 4 with fail
      go_cut [5] from 23 to 33 (fun pv wc => Mid w A1 A2 n1 n2 k1 k2 zs1 zs2 pv wc)
      case first =>
        refine Ord.tb_start [3] (by kernel_rfl) (Ord.tb_pre [1, 2, 5, 6] [_, _, _, _] (k := 8) (by kernel_rfl) rfl rfl (by kernel_rfl) ?_)
        go_wp2_with fail
        have HCw0 : Hid (Below w.heap.size w (w.alloc (.cells #[.slice A1 n1 k1, .slice A2 n2 k2] 44)).drew) := Lib.hid (below_al' _).drew
        have HZw0 : Hid (Below (w.alloc (.cells #[.slice A1 n1 k1, .slice A2 n2 k2] 44)).heap.size (w.alloc (.cells #[.slice A1 n1 k1, .slice A2 n2 k2] 44)) (w.alloc (.cells #[.slice A1 n1 k1, .slice A2 n2 k2] 44)).drew) := Lib.hid (Below.refl _ _).drew
        refine Ord.nx_tb (Ord.tb_fork (i := 0) (j := 4) (k := 7) (by kernel_rfl) rfl rfl ?_ ?_)
        · go_wp2_with fail
          refine Ord.nx_tb2 (below_al' _) (Ord.tb_fork (i := 3) (j := 4) (k := 6) (by kernel_rfl) rfl rfl ?_ ?_)
          · -- 0, 3, 4, 7
            refine wpList_copy_ints rfl (.tmp 23) (.tmp 25) rfl _ rfl A1 n1 k1 zs1 rfl (H1.out.below ((HCw0.out).trans ((below_al' _).mono (HCw0.out).size))) HL1.out (by omega) ?_
            intro B1 c1 w2 hv hb
            have HV1 := Lib.hid hv
            have HXw2 := Lib.hid hb
            have HCw2 : Hid (Below w.heap.size w w2) := Lib.hid (((HCw0.out).trans ((below_al' _).mono (HCw0.out).size)).trans (hb.mono ((HCw0.out).trans ((below_al' _).mono (HCw0.out).size)).size))
            have HZw2 : Hid (Below (w.alloc (.cells #[.slice A1 n1 k1, .slice A2 n2 k2] 44)).heap.size (w.alloc (.cells #[.slice A1 n1 k1, .slice A2 n2 k2] 44)) w2) := Lib.hid (((HZw0.out).trans ((below_al' _).mono (HZw0.out).size)).trans (hb.mono ((HZw0.out).trans ((below_al' _).mono (HZw0.out).size)).size))
            clear hv hb
            go_wp2_with fail
            refine Ord.nx_tb2 HXw2.out (Ord.tb_ords [4, 7, 8, 9, 10, 11] (by kernel_rfl) rfl (by kernel_rfl) (Ord.ord_all [_, _, _, _, _, _] rfl (by kernel_rfl) ?_))
            go_wp2_with
              (refine wpList_copy_ints rfl (.tmp 27) (.tmp 29) rfl _ rfl A2 n2 k2 zs2 rfl (H2.out.below ((HCw2.out).trans ((below_al' _).mono (HCw2.out).size))) HL2.out (by omega) ?_
               intro B2 c2 w3 hv hb
               have HV2 := Lib.hid hv
               have HXw3 := Lib.hid hb
               have HCw3 : Hid (Below w.heap.size w w3) := Lib.hid (((HCw2.out).trans ((below_al' _).mono (HCw2.out).size)).trans (hb.mono ((HCw2.out).trans ((below_al' _).mono (HCw2.out).size)).size))
               have HZw3 : Hid (Below (w.alloc (.cells #[.slice A1 n1 k1, .slice A2 n2 k2] 44)).heap.size (w.alloc (.cells #[.slice A1 n1 k1, .slice A2 n2 k2] 44)) w3) := Lib.hid (((HZw2.out).trans ((below_al' _).mono (HZw2.out).size)).trans (hb.mono ((HZw2.out).trans ((below_al' _).mono (HZw2.out).size)).size))
               clear hv hb)
            refine Ord.nx_end ?_
            go_wp2_with fail
            go_meet
            case rel => exact Mid.mk HCw3.out (HS0.out.below_ HZw3.out) (HV1.out.below (below_al HXw3.out)) (fun g h => Nat.le_trans ((HCw0.out).trans ((below_al' _).mono (HCw0.out).size)).size h.1) HV2.out (fun g h => Nat.le_trans ((HCw2.out).trans ((below_al' _).mono (HCw2.out).size)).size h.1)
          · -- 0, 4, 3, 7
            go_wp2_with fail
            refine Ord.nx_tb2 (below_al' _) (Ord.tb_ords [3, 7, 8, 9, 10, 11] (by kernel_rfl) rfl (by kernel_rfl) (Ord.ord_one rfl ?_))
            refine wpList_copy_ints rfl (.tmp 23) (.tmp 25) rfl _ rfl A1 n1 k1 zs1 rfl (H1.out.below (((HCw0.out).trans ((below_al' _).mono (HCw0.out).size)).trans ((below_al' _).mono ((HCw0.out).trans ((below_al' _).mono (HCw0.out).size)).size))) HL1.out (by omega) ?_
            intro B1 c1 w2 hv hb
            have HV1 := Lib.hid hv
            have HXw2 := Lib.hid hb
            have HCw2 : Hid (Below w.heap.size w w2) := Lib.hid ((((HCw0.out).trans ((below_al' _).mono (HCw0.out).size)).trans ((below_al' _).mono ((HCw0.out).trans ((below_al' _).mono (HCw0.out).size)).size)).trans (hb.mono (((HCw0.out).trans ((below_al' _).mono (HCw0.out).size)).trans ((below_al' _).mono ((HCw0.out).trans ((below_al' _).mono (HCw0.out).size)).size)).size))
            have HZw2 : Hid (Below (w.alloc (.cells #[.slice A1 n1 k1, .slice A2 n2 k2] 44)).heap.size (w.alloc (.cells #[.slice A1 n1 k1, .slice A2 n2 k2] 44)) w2) := Lib.hid ((((HZw0.out).trans ((below_al' _).mono (HZw0.out).size)).trans ((below_al' _).mono ((HZw0.out).trans ((below_al' _).mono (HZw0.out).size)).size)).trans (hb.mono (((HZw0.out).trans ((below_al' _).mono (HZw0.out).size)).trans ((below_al' _).mono ((HZw0.out).trans ((below_al' _).mono (HZw0.out).size)).size)).size))
            clear hv hb
            go_wp2_with fail
            refine Ord.nx_and HXw2.out (Ord.ord_all [_, _, _, _, _] rfl (by kernel_rfl) ?_)
            go_wp2_with
              (refine wpList_copy_ints rfl (.tmp 27) (.tmp 29) rfl _ rfl A2 n2 k2 zs2 rfl (H2.out.below (HCw2.out)) HL2.out (by omega) ?_
               intro B2 c2 w3 hv hb
               have HV2 := Lib.hid hv
               have HXw3 := Lib.hid hb
               have HCw3 : Hid (Below w.heap.size w w3) := Lib.hid ((HCw2.out).trans (hb.mono (HCw2.out).size))
               have HZw3 : Hid (Below (w.alloc (.cells #[.slice A1 n1 k1, .slice A2 n2 k2] 44)).heap.size (w.alloc (.cells #[.slice A1 n1 k1, .slice A2 n2 k2] 44)) w3) := Lib.hid ((HZw2.out).trans (hb.mono (HZw2.out).size))
               clear hv hb)
            refine Ord.nx_end ?_
            go_wp2_with fail
            go_meet
            case rel => exact Mid.mk HCw3.out (HS0.out.below_ HZw3.out) (HV1.out.below (HXw3.out)) (fun g h => Nat.le_trans (((HCw0.out).trans ((below_al' _).mono (HCw0.out).size)).trans ((below_al' _).mono ((HCw0.out).trans ((below_al' _).mono (HCw0.out).size)).size)).size h.1) HV2.out (fun g h => Nat.le_trans (HCw2.out).size h.1)
        · go_wp2_with fail
          refine Ord.nx_tb2 (below_al' _) (Ord.tb_ords [0, 3, 7, 8, 9, 10, 11] (by kernel_rfl) rfl (by kernel_rfl) (Ord.ord_run [0] [_] rfl (by kernel_rfl) ?_))
          go_wp2_with fail
          refine Ord.nx_ord (Ord.ord_one rfl ?_)
          refine wpList_copy_ints rfl (.tmp 23) (.tmp 25) rfl _ rfl A1 n1 k1 zs1 rfl (H1.out.below (((HCw0.out).trans ((below_al' _).mono (HCw0.out).size)).trans ((below_al' _).mono ((HCw0.out).trans ((below_al' _).mono (HCw0.out).size)).size))) HL1.out (by omega) ?_
          intro B1 c1 w2 hv hb
          have HV1 := Lib.hid hv
          have HXw2 := Lib.hid hb
          have HCw2 : Hid (Below w.heap.size w w2) := Lib.hid ((((HCw0.out).trans ((below_al' _).mono (HCw0.out).size)).trans ((below_al' _).mono ((HCw0.out).trans ((below_al' _).mono (HCw0.out).size)).size)).trans (hb.mono (((HCw0.out).trans ((below_al' _).mono (HCw0.out).size)).trans ((below_al' _).mono ((HCw0.out).trans ((below_al' _).mono (HCw0.out).size)).size)).size))
          have HZw2 : Hid (Below (w.alloc (.cells #[.slice A1 n1 k1, .slice A2 n2 k2] 44)).heap.size (w.alloc (.cells #[.slice A1 n1 k1, .slice A2 n2 k2] 44)) w2) := Lib.hid ((((HZw0.out).trans ((below_al' _).mono (HZw0.out).size)).trans ((below_al' _).mono ((HZw0.out).trans ((below_al' _).mono (HZw0.out).size)).size)).trans (hb.mono (((HZw0.out).trans ((below_al' _).mono (HZw0.out).size)).trans ((below_al' _).mono ((HZw0.out).trans ((below_al' _).mono (HZw0.out).size)).size)).size))
          clear hv hb
          go_wp2_with fail
          refine Ord.nx_and HXw2.out (Ord.ord_all [_, _, _, _, _] rfl (by kernel_rfl) ?_)
          go_wp2_with
            (refine wpList_copy_ints rfl (.tmp 27) (.tmp 29) rfl _ rfl A2 n2 k2 zs2 rfl (H2.out.below (HCw2.out)) HL2.out (by omega) ?_
             intro B2 c2 w3 hv hb
             have HV2 := Lib.hid hv
             have HXw3 := Lib.hid hb
             have HCw3 : Hid (Below w.heap.size w w3) := Lib.hid ((HCw2.out).trans (hb.mono (HCw2.out).size))
             have HZw3 : Hid (Below (w.alloc (.cells #[.slice A1 n1 k1, .slice A2 n2 k2] 44)).heap.size (w.alloc (.cells #[.slice A1 n1 k1, .slice A2 n2 k2] 44)) w3) := Lib.hid ((HZw2.out).trans (hb.mono (HZw2.out).size))
             clear hv hb)
          refine Ord.nx_end ?_
          go_wp2_with fail
          go_meet
          case rel => exact Mid.mk HCw3.out (HS0.out.below_ HZw3.out) (HV1.out.below (HXw3.out)) (fun g h => Nat.le_trans (((HCw0.out).trans ((below_al' _).mono (HCw0.out).size)).trans ((below_al' _).mono ((HCw0.out).trans ((below_al' _).mono (HCw0.out).size)).size)).size h.1) HV2.out (fun g h => Nat.le_trans (HCw2.out).size h.1)
      case rest =>
        obtain ⟨r, B1, B2, d1, d2, rfl, hbw, hr0, hS, hblk, hv1, hv2⟩ := hcut
        have HBW := Lib.hid hbw
        have HSH := Lib.hid hS
        have HBK := Lib.hid hblk
        have HV1 := Lib.hid hv1
        have HV2 := Lib.hid hv2
        have HNL : Hid ((zs1 ++ zs2).length = n1 + n2) := Lib.hid (by rw [List.length_append, HL1.out, HL2.out])
        clear hbw hS hblk hv1 hv2 c0 c1 HS0
        go_wp2_with fail
        go_loopw [6] (fun iv wr => L1 wc (zs1 ++ zs2) (n1 + n2) iv wr) (fun iv _ => (n1 + n2) - (intOf iv).toNat)
        case atStart => exact ⟨0, 0, by omega, rfl, by simp, rfl⟩
        case round =>
          obtain ⟨i, q, hi, rfl, hall, rfl⟩ := hrel
          have HALL := Lib.hid hall
          clear hall
          by_cases hlt : i < n1 + n2
          · have hiI : (i : Int) < (n1 : Int) + (n2 : Int) := by omega
            obtain ⟨z, hz⟩ : ∃ z, (zs1 ++ zs2)[i]? = some z := ⟨_, List.getElem?_eq_getElem (by rw [HNL.out]; exact hlt)⟩
            have HZ := Lib.hid hz
            have hm1 := fun k => most_any (wc.drewN k) r B1 B2 n1 n2 d1 d2 zs1 zs2 ((HBK.out.cell 0).trans rfl) ((HBK.out.cell 1).trans rfl) (iat_of_vec HV1.out) (iat_of_vec HV2.out) HL1.out HL2.out (by omega) i z HZ.out
            have HM1 := Lib.hid hm1
            clear hz hm1
            by_cases hz1 : z < 1
            · have HE : Hid (newM zs1 zs2 = none) := Lib.hid (by rw [HN1.out, if_pos (.inr (.inr (List.any_eq_true.2 ⟨z, List.mem_of_getElem? HZ.out, by simp; omega⟩)))])
              go_wp2_with fail
              refine (HM1.out q).mono ?_
              rintro e _ ⟨rfl, q1, rfl⟩
              go_wp2_with fail
              go_ret2
              rw [HE.out]
              exact ⟨below_drewN HBW.out _, .inl ⟨rfl, rfl⟩⟩
            · by_cases hz2 : 4096 < z
              · have HE : Hid (newM zs1 zs2 = none) := Lib.hid (by rw [HN1.out, if_pos (.inr (.inr (List.any_eq_true.2 ⟨z, List.mem_of_getElem? HZ.out, by simp; omega⟩)))])
                go_wp2_with fail
                refine (HM1.out q).mono ?_
                rintro e _ ⟨rfl, q1, rfl⟩
                rw [World.drewN_drewN]
                go_wp2_with fail
                refine (HM1.out (q + q1)).mono ?_
                rintro e _ ⟨rfl, q2, rfl⟩
                go_wp2_with fail
                go_ret2
                rw [HE.out]
                exact ⟨below_drewN HBW.out _, .inl ⟨rfl, rfl⟩⟩
              · go_wp2_with fail
                refine (HM1.out q).mono ?_
                rintro e _ ⟨rfl, q1, rfl⟩
                rw [World.drewN_drewN]
                go_wp2_with fail
                refine (HM1.out (q + q1)).mono ?_
                rintro e _ ⟨rfl, q2, rfl⟩
                rw [World.drewN_drewN]
                go_wp2_with fail
                go_roundw
                case rel =>
                  refine ⟨i + 1, _, hlt, by simp, fun x hx => ?_, rfl⟩
                  rw [List.take_add_one, HZ.out] at hx
                  rcases List.mem_append.1 hx with hx | hx
                  · exact HALL.out x hx
                  · simp at hx
                    subst hx
                    exact ⟨by omega, by omega⟩
                case measure => simp [intOf]; omega
          · have hi2 : i = n1 + n2 := by omega
            have hiI : (n1 : Int) + (n2 : Int) ≤ (i : Int) := by omega
            have HAL : Hid (∀ z ∈ zs1 ++ zs2, okN z) := Lib.hid (by
              have := HALL.out
              rw [hi2, ← HNL.out, List.take_length] at this
              exact this)
            clear HALL hi2
            go_wp2_with fail
            go_loopw [7] (fun iv wr => L2 S w r (.slice B1 n1 d1) (.slice B2 n2 d2) #[.slice A1 n1 k1, .slice A2 n2 k2] zs1 zs2 (n1 + n2) iv wr) (fun iv _ => (n1 + n2) - (intOf iv).toNat)
            case atStart => exact ⟨0, _, by omega, rfl, below_drewN HBW.out _, HBK.out, by rw [HL1.out]; exact HV1.out, by rw [HL2.out]; exact HV2.out, HSH.out, HasAt.nil_ _ _⟩
            case round =>
              clear hi hlt hiI
              rename World => wo
              obtain ⟨i, V, hi, rfl, hbl, hblk, hD, hT, hS, hHas⟩ := hrel
              have HBL2 := Lib.hid hbl
              have HBK2 := Lib.hid hblk
              have HD2 := Lib.hid hD
              have HT2 := Lib.hid hT
              have HS2 := Lib.hid hS
              have HHAS := Lib.hid hHas
              clear hbl hblk hD hT hS hHas HBW HBK HV1 HV2 HSH
              by_cases hlt : i < n1 + n2
              · have hiI : (i : Int) < (n1 : Int) + (n2 : Int) := by omega
                obtain ⟨z, hz⟩ : ∃ z, (zs1 ++ zs2)[i]? = some z := ⟨_, List.getElem?_eq_getElem (by rw [HNL.out]; exact hlt)⟩
                have HZ := Lib.hid hz
                have hok := HAL.out z (List.mem_of_getElem? hz)
                have hz1 := hok.1
                have hz2 := hok.2
                have HTL : Hid (((TG zs1 zs2).take i).length = i) := Lib.hid (by rw [List.length_take, TG_len, HL1.out, HL2.out]; omega)
                obtain ⟨rows, hv, h2, h3, h4⟩ := HHAS.out
                rw [HTL.out] at hv
                obtain ⟨AV, cV, rfl⟩ := hv.shape
                have HVV := Lib.hid hv
                have HR2 := Lib.hid h2
                have HR3 := Lib.hid h3
                have HR4 := Lib.hid h4
                have HRL : Hid (rows.length = i) := Lib.hid (by have := hv.len; simpa using this)
                clear hz hok hv h2 h3 h4 HHAS
                go_wp2_with fail
                go_loopw [8, 9] (fun lv kv w3 => L3 S wo (if i < n1 then z.toNat else 0) lv kv w3) (fun _ kv _ => 4096 - (intOf kv).toNat)
                case atStart => exact ⟨0, none, 0, [], Nat.zero_le _, rfl, rfl, Below.refl _ _, OwnG.nil_ _ _ _ _, fun j hj => absurd hj (Nat.not_lt_zero _)⟩
                case round =>
                  rename World => w3
                  obtain ⟨k, L, c, vs, hk, rfl, rfl, hbl3, hown, hso⟩ := hrel
                  have HBL3 := Lib.hid hbl3
                  have HOW := Lib.hid hown
                  have HSO := Lib.hid hso
                  have hs3 := HS2.out.below_ hbl3
                  have s0 := (hs3.cell 0).trans (show _ = some (.slice A1 n1 k1) from rfl)
                  have hsl := hs3.lt
                  have hb3 := HBK2.out.below_ hbl3
                  have p2 := (hb3.cell 2).trans (show _ = some (.slice AV i cV) from rfl)
                  have hrl := hb3.lt
                  clear hbl3 hown hso hs3 hb3
                  by_cases hin : i < n1
                  · have hinI : (i : Int) < (n1 : Int) := by omega
                    rw [if_pos hin] at hk
                    have hzi : zs1[i]? = some z := by
                      have := HZ.out
                      rwa [List.getElem?_append_left (by rw [HL1.out]; exact hin)] at this
                    obtain ⟨ad, hA, hcz⟩ : ∃ ad, A1 = some ad ∧ w3.cell? (ad.add i) = some (.int .i64 z) := by
                      rcases H1.out.below (HBL2.out.trans (HBL3.out.mono HBL2.out.size)) with h | ⟨ad, hA, hc⟩
                      · rw [h] at hzi; simp at hzi
                      · exact ⟨ad, hA, hc i z hzi⟩
                    subst hA
                    clear hzi
                    by_cases hkz : k < z.toNat
                    · have hkI : (k : Int) < z := by omega
                      have hmk := run_make64
                      go_wp2_with
                        (refine wpList_append_g rfl (.tmp 70) (.tmp 72) _ rfl wo.heap.size _ 1 24 _ rowTy L k c vs rfl ((HOW.out.alloc _).alloc _) ⟨w3.heap.size + 1, 0, none⟩ 1 1 [.slice (some ⟨w3.heap.size, 0, none⟩) 64 64] rfl rfl (blk_news (Blk.new_at (w3.alloc (.cells (zeros.map B8).toArray 5)) _ (by simp) _ _)) (by intro v hv; simp at hv; subst hv; rfl) ?c1 ?c2 ?c3 ?_
                         case c1 => unfold maxLen; omega
                         case c2 => omega
                         case c3 => have := HBL3.out.size; simp; omega
                         intro A5 c5 w5 ho5 hg5 hb5 _
                         have HO5 := Lib.hid ho5
                         have HG5 := Lib.hid hg5
                         have HB5 := Lib.hid hb5
                         clear ho5 hg5 hb5 s0 hcz hmk p2)
                      go_roundw
                      case rel => exact L3.next (fun g h => HSS.out g (Nat.le_trans HBL2.out.size h)) (by rw [if_pos hin]; exact hkz) HBL3.out HSO.out (by have := HOW.out.len; simpa using this) HOW.out HO5.out HG5.out HB5.out
                      case measure => simp [intOf]; omega
                    · have hkI : ¬ (k : Int) < z := by omega
                      obtain rfl : k = z.toNat := by omega
                      go_wp2_with
                        (refine wpList_append_vec rfl (.tmp 78) (.tmp 80) _ rfl 24 _ rowsTy rfl ((HVV.out.below HBL3.out).alloc _) ⟨w3.heap.size, 0, none⟩ 1 1 [.slice L z.toNat c] rfl rfl (blk_news (Blk.new w3 _ _)) (by intro v hv; simp at hv; subst hv; rfl) ?c1 ?c2 ?_
                         case c1 => unfold maxLen; omega
                         case c2 => omega
                         intro V5 w5 row hv5 hg5 hr5
                         obtain ⟨A5, c5, rfl⟩ := hv5.shape
                         have hb5 := ((HBK2.out.below_ HBL3.out).alloc (.cells #[.slice L z.toNat c] 79)).grown hg5 (by
                           rcases hr5 with rfl | ⟨g, cs, rfl, _, hh⟩
                           · simp
                           · intro e
                             injection e with e
                             subst e
                             have hx := (HBK2.out.below_ HBL3.out).alloc (.cells #[.slice L z.toNat c] 79)
                             unfold Blk at hx
                             rw [hx] at hh
                             injection hh with hh
                             injection hh with _ hh
                             exact absurd hh (by decide))
                         have f2 := (hb5.cell 2).trans (show _ = some (.slice AV i cV) from rfl)
                         have g2 := hb5.frozen 2
                         have HV5 := Lib.hid hv5
                         have HG5 := Lib.hid hg5
                         have HR5 := Lib.hid hr5
                         clear hb5 hv5 hg5 hr5 p2)
                      go_roundw
                      case rel =>
                        have hrw := L3.row (F := New w w3) HSO.out HOW.out fun g h1 h2 => ⟨Nat.le_trans HBL2.out.size h1, h2⟩
                        have htg := TG_get HZ.out
                        exact L2.next HZ.out hlt HBL2.out hr0 HBK2.out HD2.out HT2.out HS2.out HRL.out HR2.out HR3.out HR4.out HBL3.out hrw (fun g hg => by
                          rcases HOW.out.form with ⟨h1, _, _⟩ | ⟨g', h1, h2, h3⟩
                          · subst h1; cases hg
                          · subst h1
                            injection hg with hg
                            subst hg
                            exact ⟨h2, h3⟩) (by rw [htg]; rw [HL1.out, if_pos hin]) HG5.out HR5.out HV5.out
                      case measure => simp [intOf]; omega
                  · have hinI : ¬ (i : Int) < (n1 : Int) := by omega
                    rw [if_neg hin] at hk
                    obtain rfl : k = 0 := by omega
                    go_wp2_with
                      (refine wpList_append_vec rfl (.tmp 78) (.tmp 80) _ rfl 24 _ rowsTy rfl ((HVV.out.below HBL3.out).alloc _) ⟨w3.heap.size, 0, none⟩ 1 1 [.slice L 0 c] rfl rfl (blk_news (Blk.new w3 _ _)) (by intro v hv; simp at hv; subst hv; rfl) ?c1 ?c2 ?_
                       case c1 => unfold maxLen; omega
                       case c2 => omega
                       intro V5 w5 row hv5 hg5 hr5
                       obtain ⟨A5, c5, rfl⟩ := hv5.shape
                       have hb5 := ((HBK2.out.below_ HBL3.out).alloc (.cells #[.slice L 0 c] 79)).grown hg5 (by
                         rcases hr5 with rfl | ⟨g, cs, rfl, _, hh⟩
                         · simp
                         · intro e
                           injection e with e
                           subst e
                           have hx := (HBK2.out.below_ HBL3.out).alloc (.cells #[.slice L 0 c] 79)
                           unfold Blk at hx
                           rw [hx] at hh
                           injection hh with hh
                           injection hh with _ hh
                           exact absurd hh (by decide))
                       have f2 := (hb5.cell 2).trans (show _ = some (.slice AV i cV) from rfl)
                       have g2 := hb5.frozen 2
                       have HV5 := Lib.hid hv5
                       have HG5 := Lib.hid hg5
                       have HR5 := Lib.hid hr5
                       clear hb5 hv5 hg5 hr5 p2)
                    go_roundw
                    case rel =>
                      have hrw := L3.row (F := New w w3) HSO.out HOW.out fun g h1 h2 => ⟨Nat.le_trans HBL2.out.size h1, h2⟩
                      have htg := TG_get HZ.out
                      exact L2.next HZ.out hlt HBL2.out hr0 HBK2.out HD2.out HT2.out HS2.out HRL.out HR2.out HR3.out HR4.out HBL3.out hrw (fun g hg => by
                        rcases HOW.out.form with ⟨h1, _, _⟩ | ⟨g', h1, h2, h3⟩
                        · subst h1; cases hg
                        · subst h1
                          injection hg with hg
                          subst hg
                          exact ⟨h2, h3⟩) (by rw [htg]; rw [HL1.out, if_neg hin]) HG5.out HR5.out HV5.out
                    case measure => simp [intOf]; omega
              · have hi2 : i = n1 + n2 := by omega
                have hiI : ¬ (i : Int) < (n1 : Int) + (n2 : Int) := by omega
                obtain ⟨p, hp1, hp2⟩ := L2.done HL1.out HL2.out hr0 HN1.out h0 h12 HAL.out HSS.out HBK2.out HD2.out HT2.out (by rw [← hi2]; exact HHAS.out)
                have HP1 := Lib.hid hp1
                have HP2 := Lib.hid hp2
                clear hp1 hp2 hi2
                go_wp2_with fail
                go_ret2
                exact ⟨HBL2.out, .inr ⟨r, p, HP1.out, rfl, HP2.out⟩⟩
end Go.Proofs.Ytomncfiklkhfjaa.Ref
