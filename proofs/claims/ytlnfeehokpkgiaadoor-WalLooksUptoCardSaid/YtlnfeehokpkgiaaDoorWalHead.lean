/- The journal's 'header' and 'newest'. -/
import Derived.Test.YtlnfeehokpkgiaaDoorFold8
namespace Go.Proofs.YtlnfeehokpkgiaaDoor.Wal
open Go Go.RowKit Mem Pl Disk Crc _root_.Go.Proofs.YtlnfeehokpkgiaaDoor.Frame
/-- An operation of M whose guard says no. -/
theorem ord_skip {P : Program} {ops : Array Oper} {Q : Exit → Act → World → Prop} {L M : List Nat} {i : Nat} {o : Oper} {r : List Nat} {a : Act} {w : World} (hi : ops[i]? = some o) (hM : M.contains i = true) (hw : Region.wanted o (yielded ops a.tmps) = false)
    (h : Ord.wpOrd P ops (Ord.NP Q) L M r (a.put o.dst undef) w) : Ord.wpOrd P ops (Ord.NP Q) L M (i :: r) a w := by
  unfold Ord.wpOrd
  rw [if_pos hM]
  exact ⟨o, undef, hi, .inr ⟨hw, rfl⟩, h⟩
/-- Operations of M whose guards say no, in a row; their slots are empty. -/
theorem ord_skips {P : Program} {ops : Array Oper} {Q : Exit → Act → World → Prop} {L M : List Nat} {r : List Nat} {a : Act} {w : World} : ∀ (l : List Nat) (lops : List Oper), l.map (ops[·]?) = lops.map some → (l.all fun i => M.contains i) = true → (lops.all fun o => !Region.wanted o (yielded ops a.tmps)) = true → (lops.map fun o => a.put o.dst undef) = (lops.map fun _ => a) →
    Ord.wpOrd P ops (Ord.NP Q) L M r a w → Ord.wpOrd P ops (Ord.NP Q) L M (l ++ r) a w
  | [], [], _, _, _, _, h => h
  | [], _ :: _, hl, _, _, _, _ => by cases hl
  | _ :: _, [], hl, _, _, _, _ => by cases hl
  | i :: l, o :: lops, hl, hM, hw, hp, h => by
    simp only [List.map_cons, List.cons.injEq] at hl hp
    simp only [List.all_cons, Bool.and_eq_true] at hM hw
    refine ord_skip (r := l ++ r) hl.1 hM.1 (by simpa using hw.1) ?_
    rw [hp.1]
    exact ord_skips l lops hl.2 hM.2 hw.2 hp.2 h
/-- The sectors as they are read. -/
def virt (H : List (List UInt8)) (ws : Ws) (k : Nat) : List UInt8 := lastAt ws k (H.getD k zeros)
theorem sec_len {pm : PM} {dev N : Nat} {H : List (List UInt8)} {ws : Ws} (hd : Disk pm dev N H ws) (hok : pm.Ok) (k : Nat) : (virt H ws k).length = 64 := by
  have h := lastW_waits pm.waits dev k (H.getD k zeros)
  rw [show (pm.waits.filter fun x => x.dev == dev).map (fun x => (x.place, x.b)) = ws from hd.ws] at h
  unfold virt
  rw [← h]
  refine lastW_len _ _ hok.wlen ?_
  exact hok.at_len hd.dev k
/-- 'Read' of a sector, the power on. -/
theorem St.sector {B : Nat} {w : World} {F : Nat → Prop} {a : Nat} {pm : PM} {n dev N : Nat} {H : List (List UInt8)} {ws : Ws} (hst : St B w F a pm n) (hd : Disk pm dev N H ws) (hn : n ≤ 1000000000) (hon : pm.off = false) (k : Nat) (hk : k < N) :
    Calls Tryd.prog 26 #[.pointer (some ⟨a, 0, none⟩), .int .i64 (dev : Int), .int .i64 (k : Int)] w fun e w' => ∃ g c, e = .returned (.tuple #[.slice (some ⟨g, 0, none⟩) 64 c, .int .i64 0]) ∧ 64 ≤ c ∧ w.heap.size ≤ g ∧ Own w' w.heap.size 5 (some ⟨g, 0, none⟩) 64 c (virt H ws k) ∧ Below w.heap.size w w' := by
  have hrd := hd.read hon hk
  have hl := sec_len hd hst.ok k
  unfold virt at hl ⊢
  have h := read_any hst.at_ hst.ok (hst.low hn) (dev : Int) (k : Int)
  rw [hrd] at h
  refine h.mono ?_
  rintro e w' ⟨A, m, cap, he, ho, hb⟩
  have hm : m = 64 := by have := ho.len; simp only [Option.getD_some] at this; omega
  subst hm
  rcases ho.form with ⟨_, h0, _⟩ | ⟨g, rfl, hg, _⟩
  · omega
  · exact ⟨g, cap, he, ho.cap_le.1, hg, ho, hb⟩
set_option maxRecDepth 100000 in
set_option maxHeartbeats 4000000 in
theorem header_on {B : Nat} {w : World} {F : Nat → Prop} {a : Nat} {pm : PM} {n dev N : Nat} {H : List (List UInt8)} {ws : Ws} (hst : St B w F a pm n) (hd : Disk pm dev N H ws) (hn : n ≤ 1000000000) (hon : pm.off = false) (k : Nat) (hk : k < N)
    (ht : Tab w) (hgc : 0 < w.heap.size) :
    Calls Tryd.prog 59 #[.pointer (some ⟨a, 0, none⟩), .int .i64 (dev : Int), .int .i64 (k : Int)] w fun e w' => e = .returned (.tuple #[.int .u64 ((hdrM (virt H ws k)).1 : Int), .int .u64 ((hdrM (virt H ws k)).2 : Int), .int .i64 0]) ∧ Below w.heap.size w w' := by
  have HRD := Lib.hid (St.sector hst hd hn hon k hk)
  have HL := Lib.hid (sec_len hd hst.ok k)
  have HT := Lib.hid ht
  obtain ⟨b, hb⟩ : ∃ b, virt H ws k = b := ⟨_, rfl⟩
  rw [hb] at HRD HL ⊢
  obtain ⟨x0, h0⟩ : ∃ x, be (b.take 4) = x := ⟨_, rfl⟩
  obtain ⟨x1, h1⟩ : ∃ x, be ((b.drop 4).take 4) = x := ⟨_, rfl⟩
  obtain ⟨x2, h2⟩ : ∃ x, be ((b.drop 8).take 4) = x := ⟨_, rfl⟩
  obtain ⟨x3, h3⟩ : ∃ x, be ((b.drop 12).take 4) = x := ⟨_, rfl⟩
  have HN : Hid (numsV b 4 = [.int .u64 (x0 : Int), .int .u64 (x1 : Int), .int .u64 (x2 : Int), .int .u64 (x3 : Int)]) := Lib.hid (by
    rw [← h0, ← h1, ← h2, ← h3]
    rfl)
  have hx3 : x3 < 4294967296 := by rw [← h3]; exact be4_lt _
  have HM : Hid (hdrM b = if x0 = 1463897137 ∧ x3 = (more 0#32 (b.take 12)).toNat then (x1, x2) else (0, 0)) := Lib.hid (by unfold hdrM magic; rw [h0, h1, h2, h3])
  clear hst hd hon ht hb h0 h1 h2 h3
  obtain ⟨G, hG⟩ : ∃ G, (hdrM b).1 = G := ⟨_, rfl⟩
  obtain ⟨E, hE⟩ : ∃ E, (hdrM b).2 = E := ⟨_, rfl⟩
  rw [hG, hE]
  have HG := Lib.hid hG
  have HE := Lib.hid hE
  clear hG hE
  go_enter Tryd.func59, Tryd.ntmps59
  go_wp2_with fail
  refine HRD.out.mono ?_
  rintro e w1 ⟨g1, c1, rfl, hc1, hg1, ho1, hb1⟩
  have HB1 := Lib.hid hb1
  have HO1 := Lib.hid ho1
  have HNB := Lib.hid (numbers_any w1 (some ⟨g1, 0, none⟩) b 64 c1 4 HL.out hc1 (by omega) ho1.bat (by omega))
  have HT1 := Lib.hid (HT.out.below hb1 hgc)
  clear hb1 ho1 HRD
  go_wp2_with fail
  refine HNB.out.mono ?_
  rintro e w2 ⟨AL, AR, cL, cR, rfl, hol, _, _, hb2⟩
  rw [HN.out] at hol
  have HB2 := Lib.hid (HB1.out.trans (hb2.mono HB1.out.size))
  have HO2 := Lib.hid (HO1.out.below hb2)
  have HT2 := Lib.hid (HT1.out.below hb2 (Nat.lt_of_lt_of_le hgc HB1.out.size))
  obtain ⟨gL, rfl, l0⟩ := hol.cell 0 _ rfl
  obtain ⟨gL', e1, l1⟩ := hol.cell 1 _ rfl
  cases e1
  obtain ⟨gL', e2, l2⟩ := hol.cell 2 _ rfl
  cases e2
  obtain ⟨gL', e3, l3⟩ := hol.cell 3 _ rfl
  cases e3
  have hcut := run_cut_h (P := Tryd.prog) 32 5 Pl.byteTy (some ⟨g1, 0, none⟩) 64 c1 .i64 12 12 rfl (by omega)
  clear hol hb2 HNB HO1 HT1
  go_wp2_with fail
  have hS1 : U (more 0#32 (b.take 12)) = (((more 0#32 (b.take 12)).toNat : Nat) : Int) := rfl
  have hSl := (more 0#32 (b.take 12)).isLt
  have HSM := Lib.hid (fun W (hw : BAt W (some ⟨g1, 0, none⟩) (b.take 12)) (htt : Tab W) => sum_any (some ⟨g1, 0, none⟩) (b.take 12) 12 c1 W (by rw [List.length_take, HL.out]; rfl) (by omega) hw htt)
  rw [hS1] at HSM
  obtain ⟨S, hS⟩ : ∃ S, (more 0#32 (b.take 12)).toNat = S := ⟨_, rfl⟩
  rw [hS] at HSM hSl HM
  have hw3 : IntKind.u64.wrap (S : Int) = (S : Int) := by rw [IntKind.wrap_u64]; omega
  clear hS1 hS hSl
  by_cases hm : x0 = 1463897137
  · by_cases h3 : x3 = S
    · obtain ⟨rfl, rfl⟩ : G = x1 ∧ E = x2 := by
        have h := HM.out
        rw [if_pos ⟨hm, h3⟩] at h
        rw [← HG.out, ← HE.out, h]
        exact ⟨rfl, rfl⟩
      subst hm h3
      clear HM HG HE
      refine Ord.region_ordM [10] [11] [0, 1, 2, 3, 4, 5, 6, 7, 8, 9, 10, 11, 12, 13] (by kernel_rfl) (by kernel_rfl) (by kernel_rfl) (by kernel_rfl) (Ord.ord_run [0, 1, 2, 3, 4, 5, 6, 7, 8, 9] [_, _, _, _, _, _, _, _, _, _] rfl (by kernel_rfl) ?_)
      go_wp2_with fail
      refine Ord.nx_ord (Ord.ord_oneM rfl (by kernel_rfl) ?_)
      go_wp2_with fail
      refine (HSM.out w2.drew (HO2.out.bat.take 12) HT2.out).mono ?_
      rintro e _ ⟨rfl, rfl⟩
      go_wp2_with fail
      refine Ord.nx_and (Below.refl _ _) (Ord.ord_pure (.int .u64 (x3 : Int)) rfl (by kernel_rfl) (by rfl) (fun w' => by first | (go_simp; done) | (go_simp; exact hw3)) ?_)
      simp only [Act.put]
      refine Ord.ord_all [_, _] rfl (by kernel_rfl) ?_
      go_wp2_with fail
      refine Ord.nx_end ?_
      go_wp2_with fail
      refine Ord.region_ord [] [0, 1, 2, 3, 4, 5, 6, 7, 8] (by kernel_rfl) (by kernel_rfl) (by kernel_rfl) (by kernel_rfl) (Ord.ord_all [_, _, _, _, _, _, _, _, _] rfl (by kernel_rfl) ?_)
      go_wp2_with fail
      refine Ord.nx_end ?_
      go_wp2_with fail
      go_ret3
      exact ⟨rfl, below_drewN HB2.out 2⟩
    · obtain ⟨rfl, rfl⟩ : G = 0 ∧ E = 0 := by
        have h := HM.out
        rw [if_neg fun h' => h3 h'.2] at h
        rw [← HG.out, ← HE.out, h]
        exact ⟨rfl, rfl⟩
      subst hm
      have hne : ((x3 : Int) != (S : Int)) = true := by simp; omega
      clear HM HG HE h3
      refine Ord.region_ordM [10] [11] [0, 1, 2, 3, 4, 5, 6, 7, 8, 9, 10, 11, 12, 13] (by kernel_rfl) (by kernel_rfl) (by kernel_rfl) (by kernel_rfl) (Ord.ord_run [0, 1, 2, 3, 4, 5, 6, 7, 8, 9] [_, _, _, _, _, _, _, _, _, _] rfl (by kernel_rfl) ?_)
      go_wp2_with fail
      refine Ord.nx_ord (Ord.ord_oneM rfl (by kernel_rfl) ?_)
      go_wp2_with fail
      refine (HSM.out w2.drew (HO2.out.bat.take 12) HT2.out).mono ?_
      rintro e _ ⟨rfl, rfl⟩
      go_wp2_with fail
      refine Ord.nx_and (Below.refl _ _) (Ord.ord_pure (.int .u64 (S : Int)) rfl (by kernel_rfl) (by rfl) (fun w' => by first | (go_simp; done) | (go_simp; exact hw3)) ?_)
      simp only [Act.put]
      refine Ord.ord_all [_, _] rfl (by kernel_rfl) ?_
      go_wp2_with fail
      refine Ord.nx_end ?_
      go_wp2_with fail
      go_ret3
      exact ⟨rfl, below_drewN HB2.out 1⟩
  · obtain ⟨rfl, rfl⟩ : G = 0 ∧ E = 0 := by
      have h := HM.out
      rw [if_neg fun h' => hm h'.1] at h
      rw [← HG.out, ← HE.out, h]
      exact ⟨rfl, rfl⟩
    have hne : ((x0 : Int) != 1463897137) = true := by simp; omega
    clear HM HG HE hm
    refine Ord.region_ordM [10] [11] [0, 1, 2, 3, 4, 5, 6, 7, 8, 9, 10, 11, 12, 13] (by kernel_rfl) (by kernel_rfl) (by kernel_rfl) (by kernel_rfl) (Ord.ord_run [0, 1, 2, 3, 4, 5, 6, 7, 8, 9] [_, _, _, _, _, _, _, _, _, _] rfl (by kernel_rfl) ?_)
    go_wp2_with fail
    refine Ord.nx_ord (Ord.ord_oneM rfl (by kernel_rfl) ?_)
    go_wp2_with fail
    refine Ord.nx_and (Below.refl _ _) (ord_skip rfl (by kernel_rfl) (by rfl) ?_)
    simp only [Act.put]
    refine Ord.ord_all [_, _] rfl (by kernel_rfl) ?_
    go_wp2_with fail
    refine Ord.nx_end ?_
    go_wp2_with fail
    go_ret3
    exact ⟨rfl, below_drewN HB2.out 1⟩
/-- The loop of 'newest'. -/
def NewR (w : World) (f : Nat → List UInt8) (gv ev av iv : Value) (wr : World) : Prop :=
  ∃ i : Nat, i ≤ 2 ∧ iv = .int .i64 (i : Int) ∧ gv = .int .u64 ((newestM f i).1 : Int) ∧ ev = .int .u64 ((newestM f i).2.1 : Int) ∧ av = .int .i64 ((newestM f i).2.2 : Int) ∧ Below w.heap.size w wr
set_option maxRecDepth 100000 in
set_option maxHeartbeats 4000000 in
theorem newest_on {B : Nat} {w : World} {F : Nat → Prop} {a : Nat} {pm : PM} {n dev N : Nat} {H : List (List UInt8)} {ws : Ws} (hst : St B w F a pm n) (hd : Disk pm dev N H ws) (hn : n ≤ 1000000000) (hon : pm.off = false) (h2 : 2 ≤ N)
    (ht : Tab w) (hgc : 0 < w.heap.size) :
    Calls Tryd.prog 34 #[.pointer (some ⟨a, 0, none⟩), .int .i64 (dev : Int)] w fun e w' => e = .returned (.tuple #[.int .u64 ((newestM (virt H ws) 2).1 : Int), .int .u64 ((newestM (virt H ws) 2).2.1 : Int), .int .i64 ((newestM (virt H ws) 2).2.2 : Int), .int .i64 0]) ∧ Below w.heap.size w w' := by
  have HST := Lib.hid hst
  have HD := Lib.hid hd
  have HON := Lib.hid hon
  have HT := Lib.hid ht
  clear hst hd hon ht
  go_enter Tryd.func34, Tryd.ntmps34
  go_wp2_with fail
  go_loopw [4, 5, 6, 12] (fun gv ev av iv wr => NewR w (virt H ws) gv ev av iv wr) (fun _ _ _ iv _ => 2 - (intOf iv).toNat)
  case atStart => exact ⟨0, by omega, rfl, rfl, rfl, rfl, Below.refl _ _⟩
  case round =>
    obtain ⟨i, hi, rfl, rfl, rfl, rfl, hbw⟩ := hrel
    have HBW := Lib.hid hbw
    clear hbw
    by_cases hlt : i < 2
    · have hiI : (i : Int) < 2 := by omega
      have HRD := Lib.hid (header_on (HST.out.below HBW.out) HD.out hn HON.out i (by omega) (HT.out.below HBW.out hgc) (Nat.lt_of_lt_of_le hgc HBW.out.size))
      have HNX : Hid (newestM (virt H ws) (i + 1) = if (newestM (virt H ws) i).1 < (hdrM (virt H ws i)).1 then ((hdrM (virt H ws i)).1, (hdrM (virt H ws i)).2, i) else newestM (virt H ws) i) := Lib.hid rfl
      obtain ⟨g1, hg1⟩ : ∃ g, (hdrM (virt H ws i)).1 = g := ⟨_, rfl⟩
      obtain ⟨e1, he1⟩ : ∃ g, (hdrM (virt H ws i)).2 = g := ⟨_, rfl⟩
      rw [hg1, he1] at HRD HNX
      obtain ⟨x, hx⟩ : ∃ x, newestM (virt H ws) i = x := ⟨_, rfl⟩
      rw [hx] at HNX ⊢
      obtain ⟨x0, x1, x2⟩ := x
      simp only at HNX
      clear hg1 he1 hx
      dsimp only
      by_cases hgt : x0 < g1
      · have hgtI : (x0 : Int) < (g1 : Int) := by omega
        have HN : Hid (newestM (virt H ws) (i + 1) = (g1, e1, i)) := Lib.hid (by rw [HNX.out, if_pos hgt])
        go_wp2_with fail
        refine HRD.out.mono ?_
        rintro e w2 ⟨rfl, hb2⟩
        have HB2 := Lib.hid (HBW.out.trans (hb2.mono HBW.out.size))
        clear hb2 HRD
        go_wp2_with fail
        go_roundw
        case rel => exact ⟨i + 1, by omega, by simp, by rw [HN.out], by rw [HN.out], by rw [HN.out], HB2.out⟩
        case measure => simp [intOf]; omega
      · have hgtI : ¬ (x0 : Int) < (g1 : Int) := by omega
        have HN : Hid (newestM (virt H ws) (i + 1) = (x0, x1, x2)) := Lib.hid (by rw [HNX.out, if_neg hgt])
        go_wp2_with fail
        refine HRD.out.mono ?_
        rintro e w2 ⟨rfl, hb2⟩
        have HB2 := Lib.hid (HBW.out.trans (hb2.mono HBW.out.size))
        clear hb2 HRD
        go_wp2_with fail
        go_roundw
        case rel => exact ⟨i + 1, by omega, by simp, by rw [HN.out], by rw [HN.out], by rw [HN.out], HB2.out⟩
        case measure => simp [intOf]; omega
    · obtain rfl : i = 2 := by omega
      go_wp2_with fail
      refine bodyPost_ret (results_tmp4 rfl _ _ _) rfl ?_
      exact ⟨rfl, HBW.out⟩
end Go.Proofs.YtlnfeehokpkgiaaDoor.Wal
