/- Layer 15 (coldvol): an object read. -/
import Derived.Test.YtloffgoenaomkaaDoorCol6
import Derived.Test.YtloffgoenaomkaaDoorFold14
namespace Go.Proofs.YtloffgoenaomkaaDoor.Col
open Go Go.RowKit Mem Pl Disk Crc _root_.Go.Proofs.YtloffgoenaomkaaDoor.Frame Hash
/-- Operations whose guards say no, one after the other. -/
def skipOk (ops : Array Oper) : List Oper → Act → Bool
  | [], _ => true
  | o :: l, a => !Region.wanted o (yielded ops a.tmps) && skipOk ops l (a.put o.dst undef)
theorem ord_skips {P : Program} {ops : Array Oper} {Q : Exit → Act → World → Prop} {L M : List Nat} {r : List Nat} {w : World} : ∀ (l : List Nat) (lops : List Oper) (a : Act), l.map (ops[·]?) = lops.map some → (l.all fun i => M.contains i) = true → skipOk ops lops a = true →
    Ord.wpOrd P ops (Ord.NP Q) L M r (lops.foldl (fun a o => a.put o.dst undef) a) w → Ord.wpOrd P ops (Ord.NP Q) L M (l ++ r) a w
  | [], [], _, _, _, _, h => h
  | [], _ :: _, _, hl, _, _, _ => by cases hl
  | _ :: _, [], _, hl, _, _, _ => by cases hl
  | i :: l, o :: lops, a, hl, hM, hw, h => by
    simp only [List.map_cons, List.cons.injEq] at hl
    simp only [List.all_cons, Bool.and_eq_true] at hM
    simp only [skipOk, Bool.and_eq_true] at hw
    have hr := ord_skips (L := L) l lops (a.put o.dst undef) hl.2 hM.2 hw.2 h
    show Ord.wpOrd P ops (Ord.NP Q) L M (i :: (l ++ r)) a w
    unfold Ord.wpOrd
    rw [if_pos hM.1]
    exact ⟨o, undef, hl.1, .inr ⟨by simpa using hw.1, rfl⟩, hr⟩
theorem str_of {w : World} {A : Option Addr} {bs : List UInt8} {n cap : Nat} (hb : BAt w A bs) (hn : bs.length = n) : (convert 38 9 (.slice A n cap)).run Tryd.prog w = .ok (.string (Rec.S8 bs)) w := run_toString (P := Tryd.prog) (w := w) (ts := 9) Pl.byteTy Pl.strTy cap hb hn
theorem results_tmp4 {fn : Func} {t u v x : Tmp} (h : fn.results = #[.tmp t, .tmp u, .tmp v, .tmp x]) (tmps : Array Value) (P : Program) (w : World) :
    (results fn tmps).run P w = .ok (.tuple #[tmps.getD t undef, tmps.getD u undef, tmps.getD v undef, tmps.getD x undef]) w := by
  simp [results, h]
def ObR (_w w5 : World) (T : List (List UInt8)) (at_ m D : Nat) (id : List UInt8) (dv tv iv : Value) (wr : World) : Prop :=
  dv = .string (Rec.S8 id) ∧ ∃ (i : Nat) (A : Option Addr) (n c : Nat) (b : List UInt8), 1 ≤ i ∧ i ≤ D + 1 ∧ iv = .int .i64 (i : Int) ∧ tv = .slice A n c ∧ b.length = n ∧ n = min m (56 * (i - 1)) ∧ Own wr w5.heap.size 5 A n c b ∧
    dataM T at_ m D 1 [] = dataM T at_ m (D + 1 - i) i b ∧ Below w5.heap.size w5 wr
/-- What 'object' answers. -/
def RetOb (w : World) (o : Option (List UInt8 × List UInt8)) (e : Ending) (w' : World) : Prop :=
  Below w.heap.size w w' ∧ ∃ id A m cap b, e = .returned (.tuple #[.string (Rec.S8 id), .slice A m cap, .bool o.isSome, .int .i64 0]) ∧ Own w' w.heap.size 5 A m cap b ∧ ∀ x, o = some x → x = (id, b)
theorem RetOb.none_ {w w' : World} (hb : Below w.heap.size w w') : RetOb w none (.returned (.tuple #[.string (Rec.S8 []), .slice none 0 0, .bool false, .int .i64 0])) w' :=
  ⟨hb, [], none, 0, 0, [], rfl, Own.nil_ _ _ _, fun _ h => by cases h⟩
theorem cell_at4 {w : World} {g : Nat} {bs : List UInt8} (h : BAt w (some ⟨g, 4, none⟩) bs) (h4 : 0 < bs.length) : w.cell? ⟨g, 4, none⟩ = some (.int .u8 (V8 (bs.getD 0 0))) := by
  obtain ⟨ad, e, hcell⟩ := h h4
  cases e
  have := hcell 0 h4
  rwa [add_off] at this
set_option maxRecDepth 100000 in
set_option maxHeartbeats 8000000 in
theorem object_any {B : Nat} {w : World} {F : Nat → Prop} {a : Nat} {pm : PM} {n v dev N : Nat} {H ws : List (List UInt8)} (h : VS B w F a pm n v dev N H ws) (hn : n ≤ 1000000000) (at_ : Nat) (hat : at_ < H.length + ws.length) :
    Calls Tryd.prog 42 #[.pointer (some ⟨v, 0, none⟩), .int .i64 (at_ : Int)] w (RetOb w (objM (H ++ ws) at_)) := by
  have HV := Lib.hid h
  have hlt := h.vol.lt
  have hv0 := h.vol.cell 0
  have hv1 := h.vol.cell 1
  simp at hv0 hv1
  have hrm := h.room
  obtain ⟨T, hT⟩ : ∃ T, H ++ ws = T := ⟨_, rfl⟩
  have HT := Lib.hid hT
  have hTl : T.length = H.length + ws.length := by rw [← hT, List.length_append]
  have ha4 : at_ < 4096 := by omega
  have HAL := Lib.hid (⟨hTl, hrm.1, hrm.2.1, hat⟩ : _ ∧ _ ∧ _ ∧ _)
  obtain ⟨o, ho⟩ : ∃ o, objM T at_ = o := ⟨_, rfl⟩
  have HO := Lib.hid ho
  rw [hT, ho]
  clear h hrm hT hTl ho hat
  go_enter Tryd.func42, Tryd.ntmps42
  go_wp2_with fail
  refine Ord.region_ord [6] [0, 1, 2, 3, 4, 5, 6, 7, 8, 9, 10, 11, 12, 13, 14] (by kernel_rfl) (by kernel_rfl) (by kernel_rfl) (by kernel_rfl) (Ord.ord_run [0, 1, 2, 3, 4, 5] [_, _, _, _, _, _] rfl (by kernel_rfl) ?_)
  go_wp2_with fail
  refine Ord.nx_ord (Ord.ord_one rfl ?_)
  go_wp2_with fail
  refine (tagOf_c w.drew 1 0 at_ (by decide) (by decide) (by omega)).mono ?_
  rintro e w2 ⟨rfl, hb2⟩
  have hb2' : Below w.heap.size w w2 := (show Below w.heap.size w w.drew from below_drewN (Below.refl _ _) 1).trans hb2
  have HV2 := Lib.hid (HV.out.below hb2')
  have HB2 := Lib.hid hb2'
  have hrd := HV2.out.read hn at_ HAL.out.2.2.2 (tagM 1 0 at_) rfl
  rw [HT.out] at hrd
  have HRD := Lib.hid hrd
  have HBX := Lib.hid hb2
  clear hb2 hb2' hrd
  go_wp2_with fail
  refine Ord.nx_and HBX.out (Ord.ord_all [_, _, _, _, _, _, _, _] rfl (by kernel_rfl) ?_)
  clear HBX
  go_wp2_with fail
  refine HRD.out.mono ?_
  rintro e w3 ⟨hb3, hr3⟩
  have HV3 := Lib.hid (HV2.out.below hb3)
  have HB3 := Lib.hid (HB2.out.trans (hb3.mono HB2.out.size))
  clear HRD HV2 HB2 hb3 hv0 hv1
  rcases hr3 with ⟨hd, g3, c3, hM, rfl, hc3, hg3, ho3, hl3⟩ | ⟨hM, rfl⟩
  rotate_left
  · obtain rfl : o = none := by rw [← HO.out]; unfold objM; rw [hM]
    clear hM HO
    go_wp2_with fail
    refine Ord.nx_end ?_
    go_wp2_with fail
    refine bodyPost_ret (results_tmp4 rfl _ _ _) rfl ?_
    exact RetOb.none_ HB3.out
  · have HO2 : Hid (o = restM T at_ (hd.getD 0 0).toNat (be ((hd.drop 1).take 2)) hd) := Lib.hid (by rw [← HO.out]; unfold objM; rw [hM])
    have hcut1 := fun W => run_cut_l (P := Tryd.prog) 38 5 Pl.byteTy (some ⟨g3, 4, none⟩) 56 c3 .i64 1 1 rfl (by decide) W
    have n1 : ¬ (c3 = 1) := by omega
    simp only [cutA, n1, if_false, Option.map_some, add_off] at hcut1
    have hbat1 := ho3.drop 1
    rw [add_off] at hbat1
    have HTK := Lib.hid (take_yes (some ⟨g3, 5, none⟩) (hd.drop 1) 55 (c3 - 1) 2 w3 (by rw [List.length_drop, hl3]) (by omega) (by omega) hbat1 (by omega) (by omega) (by omega))
    have HH := Lib.hid (⟨ho3, hl3, hc3, hg3⟩ : _ ∧ _ ∧ _ ∧ _)
    clear hM HO ho3 hbat1 n1
    go_wp2_with fail
    refine Ord.nx_end ?_
    go_wp2_with fail
    refine HTK.out.mono ?_
    rintro e w4 ⟨A4, N4, c4, rfl, -, hb4⟩
    have HV4 := Lib.hid (HV3.out.below hb4)
    have HB4 := Lib.hid (HB3.out.trans (hb4.mono HB3.out.size))
    have hh4 := HH.out.1.below hb4
    have HH4 := Lib.hid hh4
    have hc40 := cell_at4 hh4 (by rw [HH.out.2.1]; decide)
    obtain ⟨k, hk⟩ : ∃ k, (hd.getD 0 0).toNat = k := ⟨_, rfl⟩
    have hV8 : V8 (hd.getD 0 0) = (k : Int) := by rw [← hk]; rfl
    rw [hV8] at hc40
    obtain ⟨m, hm⟩ : ∃ m, be ((hd.drop 1).take 2) = m := ⟨_, rfl⟩
    rw [hk, hm] at HO2
    rw [hm]
    have hk256 : k < 256 := by rw [← hk]; exact (hd.getD 0 0).toNat_lt
    have hm64 : m < 65536 := by
      rw [← hm]
      have := be_lt ((hd.drop 1).take 2)
      have hl : ((hd.drop 1).take 2).length = 2 := by rw [List.length_take, List.length_drop, HH.out.2.1]; rfl
      rw [hl] at this
      exact this
    have hw1 : IntKind.i64.wrap (k : Int) = (k : Int) := IntWalk.i64_in _ (by omega)
    have hw2 : IntKind.i64.wrap (m : Int) = (m : Int) := IntWalk.i64_in _ (by omega)
    clear hb4 hh4 HTK HV3 HB3 hcut1 hk hm hV8
    have hv0 := HV4.out.vol.cell 0
    have hv1 := HV4.out.vol.cell 1
    simp at hv0 hv1
    by_cases hk16 : 16 < k
    · obtain rfl : o = none := by rw [HO2.out]; unfold restM; rw [if_pos (.inl hk16)]
      have hki : (16 : Int) < (k : Int) := by omega
      have hkd : decide (16 < k) = true := decide_eq_true hk16
      clear HO2 hk16
      go_wp2_with fail
      refine Ord.region_ordM [] [3, 4, 7, 8, 9, 10, 11, 12, 13, 14, 15, 16] [0, 1, 2, 3, 4, 5, 6, 7, 8, 9, 10, 11, 12, 13, 14, 15, 16, 17] (by kernel_rfl) (by kernel_rfl) (by kernel_rfl) (by kernel_rfl) (Ord.ord_run [0, 1, 2] [_, _, _] rfl (by kernel_rfl) ?_)
      go_wp2_with fail
      refine Ord.nx_ord (ord_skips [3, 4] [_, _] _ rfl (by kernel_rfl) (by kernel_rfl) ?_)
      simp only [List.foldl, Act.put, List.setIfInBounds_toArray]
      refine Ord.ord_run [5, 6] [_, _] rfl (by kernel_rfl) ?_
      go_wp2_with fail
      refine Ord.nx_ord (ord_skips [7, 8, 9, 10, 11, 12, 13, 14, 15, 16] [_, _, _, _, _, _, _, _, _, _] _ rfl (by kernel_rfl) (by kernel_rfl) ?_)
      simp only [List.foldl, Act.put, List.setIfInBounds_toArray]
      refine Ord.ord_all [_] rfl (by kernel_rfl) ?_
      go_wp2_with fail
      refine Ord.nx_end ?_
      go_wp2_with fail
      refine bodyPost_ret (results_tmp4 rfl _ _ _) rfl ?_
      exact RetOb.none_ (HB4.out.trans (below_drewN (Below.refl _ _) 1 |>.mono HB4.out.size))
    · have hki : ¬ (16 : Int) < (k : Int) := by omega
      have hkd : decide (16 < k) = false := decide_eq_false hk16
      have hkd2 : decide ((16 : Int) < (k : Int)) = false := decide_eq_false hki
      by_cases hm5 : 512 < m
      · obtain rfl : o = none := by rw [HO2.out]; unfold restM; rw [if_pos (.inr (.inl hm5))]
        have hmi : (512 : Int) < (m : Int) := by omega
        have hmd : decide (512 < m) = true := decide_eq_true hm5
        clear HO2 hm5
        go_wp2_with fail
        refine Ord.region_ordM [] [7, 8, 9, 10, 11, 12, 13, 14, 15, 16] [0, 1, 2, 3, 4, 5, 6, 7, 8, 9, 10, 11, 12, 13, 14, 15, 16, 17] (by kernel_rfl) (by kernel_rfl) (by kernel_rfl) (by kernel_rfl) (Ord.ord_run [0, 1, 2, 3, 4, 5, 6] [_, _, _, _, _, _, _] rfl (by kernel_rfl) ?_)
        go_wp2_with fail
        refine Ord.nx_ord (ord_skips [7, 8, 9, 10, 11, 12, 13, 14, 15, 16] [_, _, _, _, _, _, _, _, _, _] _ rfl (by kernel_rfl) (by kernel_rfl) ?_)
        simp only [List.foldl, Act.put, List.setIfInBounds_toArray]
        refine Ord.ord_all [_] rfl (by kernel_rfl) ?_
        go_wp2_with fail
        refine Ord.nx_end ?_
        go_wp2_with fail
        refine bodyPost_ret (results_tmp4 rfl _ _ _) rfl ?_
        exact RetOb.none_ (HB4.out.trans (below_drewN (Below.refl _ _) 1 |>.mono HB4.out.size))
      · have hmi : ¬ (512 : Int) < (m : Int) := by omega
        have hmd : decide (512 < m) = false := decide_eq_false hm5
        have hmd2 : decide ((512 : Int) < (m : Int)) = false := decide_eq_false hmi
        have hbz := blocksZ_nat (n := m) (by omega)
        obtain ⟨D, hD⟩ : ∃ D, dataN m = D := ⟨_, rfl⟩
        have hD10 : D ≤ 10 := by rw [← hD]; unfold dataN; omega
        have HDM : Hid (m ≤ 56 * D ∧ ∀ i, i < D → 56 * i < m) := Lib.hid (by rw [← hD]; unfold dataN; exact ⟨by omega, fun i hi => by omega⟩)
        rw [hD] at hbz
        obtain ⟨x, hx⟩ : ∃ x, at_ + (2 + D) = x := ⟨_, rfl⟩
        have hadd : IntKind.i64.wrap ((at_ : Int) + ((2 + D : Nat) : Int)) = (x : Int) := by rw [show (at_ : Int) + ((2 + D : Nat) : Int) = (x : Int) by omega]; exact IntWalk.i64_in _ (by omega)
        have HBL := Lib.hid (fun w : World => by have := blocks_any w (m : Int); rw [hbz] at this; exact this : ∀ w : World, Calls Tryd.prog 18 #[.int .i64 (m : Int)] w fun e w' => e = .returned (.int .i64 ((2 + D : Nat) : Int)) ∧ w = w')
        obtain ⟨t2, ht2⟩ : ∃ t, 2 + D = t := ⟨_, rfl⟩
        rw [ht2] at HBL hadd
        have HSZ := Lib.hid (fun w' hb => size_any (w := w') (HV4.out.below hb).st.at_ HV4.out.st.ok (HV4.out.st.low hn) HV4.out.tp : ∀ w', Below w4.heap.size w4 w' → _)
        obtain ⟨q, hq⟩ : ∃ q, H.length + ws.length = q := ⟨_, rfl⟩
        have HQ := Lib.hid hq
        have HD := Lib.hid (⟨hD, ht2, hx, hm5, hk16⟩ : _ ∧ _ ∧ _ ∧ _ ∧ _)
        have hbd : Below w4.heap.size w4 w4.drew := below_drewN (Below.refl _ _) 1
        have HBD := Lib.hid hbd
        clear hbz hq hD ht2 hx hm5 hk16 hbd
        go_wp2_with fail
        refine Ord.region_ordM [9] [10] [0, 1, 2, 3, 4, 5, 6, 7, 8, 11, 12, 13, 14, 9, 10, 15, 16, 17] (by kernel_rfl) (by kernel_rfl) (by kernel_rfl) (by kernel_rfl) (Ord.ord_run [0, 1, 2, 3, 4, 5, 6, 7, 8, 11, 12, 13, 14] [_, _, _, _, _, _, _, _, _, _, _, _, _] rfl (by kernel_rfl) ?_)
        go_wp2_with fail
        refine Ord.nx_ord (Ord.ord_oneM rfl (by kernel_rfl) ?_)
        go_wp2_with fail
        refine (HBL.out _).mono ?_
        rintro e w5 ⟨rfl, rfl⟩
        go_wp2_with fail
        refine Ord.nx_and (Below.refl _ _) (Ord.ord_pure (.int .i64 (x : Int)) rfl (by kernel_rfl) rfl (fun w' => by first | (go_simp; done) | (go_simp; exact hadd)) ?_)
        simp only [Act.put, List.setIfInBounds_toArray]
        refine Ord.ord_all [_, _, _] rfl (by kernel_rfl) ?_
        go_wp2_with fail
        refine (HSZ.out _ HBD.out).mono ?_
        rintro e w5 ⟨rfl, hb5⟩
        have hb5' : Below w4.heap.size w4 w5 := HBD.out.trans hb5
        have HV5 := Lib.hid (HV4.out.below hb5')
        have HB5 := Lib.hid (HB4.out.trans (hb5'.mono HB4.out.size))
        have HH5 := Lib.hid (HH4.out.below hb5')
        clear hb5 hb5' HV4 HB4 HBD HSZ hv0 hv1 hc40 HH4
        rw [HQ.out]
        by_cases hfit : q < x
        · have hfi : (q : Int) < (x : Int) := by omega
          obtain rfl : o = none := by
            rw [HO2.out]
            unfold restM
            have h1 := HD.out
            have h2 := HQ.out
            have h3 := HAL.out.1
            rw [if_pos (.inr (.inr (by rw [h1.1]; omega)))]
          clear HO2 hfit
          go_wp2_with fail
          refine Ord.nx_end ?_
          go_wp2_with fail
          refine bodyPost_ret (results_tmp4 rfl _ _ _) rfl ?_
          exact RetOb.none_ HB5.out
        · have hfi : ¬ (q : Int) < (x : Int) := by omega
          have hfd : decide (q < x) = false := decide_eq_false hfit
          have hfd2 : decide ((q : Int) < (x : Int)) = false := decide_eq_false hfi
          have HO3 : Hid (o = match dataM T at_ m D 1 [] with
              | none => none
              | some b => if (readM (T.getD (at_ + (D + 1)) []) (tagM 3 (D + 1) at_)).isSome ∧ Rec.nameM ((hd.drop 3).take k) = true then some ((hd.drop 3).take k, b) else none) := Lib.hid (by
            rw [HO2.out]
            unfold restM
            have h1 := HD.out
            have h2 := HQ.out
            have h3 := HAL.out.1
            rw [if_neg (by rw [h1.1]; omega), h1.1]
            rfl)
          clear HO2 hfit
          go_wp2_with fail
          refine Ord.nx_end ?_
          have hw3 : IntKind.i64.wrap (3 + (k : Int)) = ((3 + k : Nat) : Int) := by rw [show 3 + (k : Int) = ((3 + k : Nat) : Int) by omega]; exact IntWalk.i64_in _ (by omega)
          have hcut3 := fun W => run_cut_lh (P := Tryd.prog) 38 5 Pl.byteTy (some ⟨g3, 4, none⟩) 56 c3 .i64 .i64 3 ((3 + k : Nat) : Int) 3 (3 + k) rfl rfl (by omega) (by omega) W
          have n3 : ¬ (c3 = 3) := by omega
          simp only [cutA, n3, if_false, Option.map_some, add_off] at hcut3
          have hkk : 3 + k - 3 = k := by omega
          rw [hkk] at hcut3
          have hbat3 := (HH5.out.drop 3).take k
          rw [add_off] at hbat3
          have hidl : ((hd.drop 3).take k).length = k := by have := HH.out.2.1; have := HD.out; rw [List.length_take, List.length_drop]; omega
          have hstr := str_of (cap := c3 - 3) hbat3 hidl
          obtain ⟨id, hid⟩ : ∃ id, (hd.drop 3).take k = id := ⟨_, rfl⟩
          rw [hid] at hstr HO3 hidl
          obtain ⟨k3, hk3⟩ : ∃ k3, 3 + k = k3 := ⟨_, rfl⟩
          rw [hk3] at hw3 hcut3
          have HNM := Lib.hid (fun w : World => Rec.name_any id (by omega) w)
          have HIL := Lib.hid hidl
          clear n3 hkk hbat3 hid hidl hk3 HH5
          go_wp2_with fail
          have HB5W := Lib.hid (Below.refl w5.heap.size w5)
          have hq4 : x ≤ q ∧ q ≤ 4096 := by have := HQ.out; have := HAL.out; omega
          have HX := Lib.hid (⟨hq4, HD.out.2.1, HD.out.2.2.1⟩ : _ ∧ _ ∧ _)
          clear hcut3 hstr hw3 hq4
          have hsub : IntKind.i64.wrap ((t2 : Int) - 1) = ((D + 1 : Nat) : Int) := by rw [show (t2 : Int) - 1 = ((D + 1 : Nat) : Int) by have := HX.out; omega]; exact IntWalk.i64_in _ (by omega)
          obtain ⟨D1, hD1⟩ : ∃ x, D + 1 = x := ⟨_, rfl⟩
          rw [hD1] at hsub
          have HD1 := Lib.hid hD1
          clear hD1
          go_loopw [4, 5, 14] (fun dv tv iv wr => ObR w w5 T at_ m D id dv tv iv wr) (fun _ _ iv _ => D + 1 - (intOf iv).toNat)
          case atStart => exact ⟨rfl, 1, none, 0, 0, [], Nat.le_refl _, by omega, rfl, rfl, rfl, by omega, Own.nil_ _ _ _, rfl, HB5W.out⟩
          case round =>
            obtain ⟨rfl, i, A, nb, cb, b, hi1, hi2, rfl, rfl, hbl, hbn, ho, hgo, hbw⟩ := hrel
            have HBW := Lib.hid (HB5.out.trans (hbw.mono HB5.out.size))
            have HVW := Lib.hid (HV5.out.below hbw)
            have HBR := Lib.hid hbw
            have HOW := Lib.hid ho
            have HGO := Lib.hid hgo
            have HBL2 := Lib.hid hbl
            have hv0 := HVW.out.vol.cell 0
            have hv1 := HVW.out.vol.cell 1
            simp at hv0 hv1
            clear ho hgo hbw hbl
            by_cases hlt : i < D1
            · have hltI : (i : Int) < (D1 : Int) := by omega
              obtain ⟨f, hf⟩ : ∃ f, D + 1 - i = f + 1 := ⟨D - i, by have := HD1.out; omega⟩
              have hnb : nb = 56 * (i - 1) := by have := HDM.out.2 (i - 1) (by have := HD1.out; omega); omega
              have hnm : nb < m := by have := HDM.out.2 (i - 1) (by have := HD1.out; omega); omega
              obtain ⟨p, hp⟩ : ∃ p, at_ + i = p := ⟨_, rfl⟩
              have hadd2 : IntKind.i64.wrap ((at_ : Int) + (i : Int)) = (p : Int) := by rw [show (at_ : Int) + (i : Int) = (p : Int) by omega]; exact IntWalk.i64_in _ (by omega)
              have HP := Lib.hid (⟨hp, hf, hnb⟩ : _ ∧ _ ∧ _)
              clear hbn
              have HPQ : Hid (p < H.length + ws.length) := Lib.hid (by have := HX.out; have := HQ.out; have := HD1.out; omega)
              clear hp hf hnb
              go_wp2_with fail
              refine (HBL.out _).mono ?_
              rintro e _ ⟨rfl, rfl⟩
              go_wp2_with fail
              refine Ord.region_ordM [9] [6] [0, 1, 2, 3, 4, 5, 7, 8, 6, 9, 10, 11, 12, 13, 14, 15, 16, 17] (by kernel_rfl) (by kernel_rfl) (by kernel_rfl) (by kernel_rfl) (Ord.ord_run [0, 1, 2, 3, 4, 5, 7, 8] [_, _, _, _, _, _, _, _] rfl (by kernel_rfl) ?_)
              go_wp2_with fail
              refine Ord.nx_ord (Ord.ord_pure (.int .i64 (p : Int)) rfl (by kernel_rfl) rfl (fun w' => by first | (go_simp; done) | (go_simp; exact hadd2)) ?_)
              simp only [Act.put, List.setIfInBounds_toArray]
              refine Ord.ord_oneM rfl (by kernel_rfl) ?_
              go_wp2_with fail
              refine (tagOf_c wr.drew 2 i at_ (by decide) (by omega) (by omega)).mono ?_
              rintro e w6 ⟨rfl, hb6⟩
              have hb6' : Below wr.heap.size wr w6 := (show Below wr.heap.size wr wr.drew from below_drewN (Below.refl _ _) 1).trans hb6
              have HV6 := Lib.hid (HVW.out.below hb6')
              have HB6 := Lib.hid (HBW.out.trans (hb6'.mono HBW.out.size))
              have HO6 := Lib.hid (HOW.out.below hb6')
              have HR6 := Lib.hid (HBR.out.trans (hb6'.mono HBR.out.size))
              have hrd := HV6.out.read hn p HPQ.out (tagM 2 i at_) rfl
              rw [HT.out] at hrd
              have HRD := Lib.hid hrd
              have HBX := Lib.hid hb6
              clear hb6 hb6' hrd
              go_wp2_with fail
              refine Ord.nx_and HBX.out (Ord.ord_all [_, _, _, _, _, _, _, _] rfl (by kernel_rfl) ?_)
              clear HBX
              go_wp2_with fail
              refine HRD.out.mono ?_
              rintro e w7 ⟨hb7, hr7⟩
              have HB7 := Lib.hid (HB6.out.trans (hb7.mono HB6.out.size))
              have HO7 := Lib.hid (HO6.out.below hb7)
              have HR7 := Lib.hid (HR6.out.trans (hb7.mono HR6.out.size))
              clear HRD HV6 HB6 HO6 HR6 HVW HBW HOW HBR hb7 hv0 hv1
              have HDS : Hid (dataM T at_ m (f + 1) i b = match readM (T.getD p []) (tagM 2 i at_) with
                | some c => dataM T at_ m f (i + 1) (b ++ c.take (min 56 (m - b.length)))
                | none => none) := Lib.hid (by rw [← HP.out.1]; rfl)
              rcases hr7 with ⟨cd, g7, c7, hM7, rfl, hc7, hg7, ho7, hl7⟩ | ⟨hM7, rfl⟩
              rotate_left
              · obtain rfl : o = none := by rw [HO3.out, HGO.out, HP.out.2.1, HDS.out, hM7]
                clear hM7 HO3 HGO HDS
                go_wp2_with fail
                refine Ord.nx_end ?_
                go_wp2_with fail
                refine bodyPost_ret (results_tmp4 rfl _ _ _) rfl ?_
                exact RetOb.none_ HB7.out
              · have HDT : Hid (dataM T at_ m D 1 [] = dataM T at_ m f (i + 1) (b ++ cd.take (min 56 (m - nb)))) := Lib.hid (by rw [HGO.out, HP.out.2.1, HDS.out, hM7, ← HBL2.out])
                clear hM7 HDS HGO
                obtain ⟨d, hd⟩ : ∃ d, m - nb = d := ⟨_, rfl⟩
                rw [hd] at HDT
                have hsub2 : IntKind.i64.wrap ((m : Int) - (nb : Int)) = (d : Int) := by rw [show (m : Int) - (nb : Int) = (d : Int) by omega]; exact IntWalk.i64_in _ (by omega)
                have HO7B := Lib.hid ho7
                by_cases h56 : 56 ≤ d
                · have h56i : ¬ (d : Int) < 56 := by omega
                  have hr : min 56 d = 56 := by omega
                  have hcut7 := fun W => run_cut_h (P := Tryd.prog) 38 5 Pl.byteTy (some ⟨g7, 4, none⟩) 56 c7 .i64 56 56 rfl (by omega) W
                  have hrl : (cd.take 56).length = 56 := by rw [List.length_take]; omega
                  have hbl8 : (b ++ cd.take 56).length = nb + 56 := by rw [List.length_append, HBL2.out, hrl]
                  rw [hr] at HDT
                  have HN := Lib.hid (⟨hd, HP.out.2.2, hbl8⟩ : _ ∧ _ ∧ _)
                  have HRL := Lib.hid hrl
                  clear hd hr hrl ho7 hbl8
                  go_wp2_with fail
                  refine Ord.nx_end ?_
                  go_wp2_with
                    (at_builtin
                     refine wpList_append_bytes rfl (.tmp 103) (.tmp 110) _ rfl w5.heap.size _ Pl.byteTy A nb cb b rfl HO7.out (some ⟨g7, 4, none⟩) 56 c7 (cd.take 56) rfl (HO7B.out.take 56) HRL.out (nb + 56) rfl (by omega) HR7.out.size ?_
                     intro A8 c8 w8 hown8 hgr8 hb8 hor8
                     have HO8 := Lib.hid hown8
                     have HB8 := Lib.hid (HR7.out.trans hb8)
                     clear hown8 hgr8 hb8 hor8)
                  go_roundw
                  case rel =>
                    refine ⟨rfl, i + 1, A8, nb + 56, c8, b ++ cd.take 56, by omega, by have := HD1.out; omega, by simp, rfl, HN.out.2.2, ?_, HO8.out, ?_, HB8.out⟩
                    · have h1 := HN.out.1
                      have h2 := HN.out.2.1
                      have h3 := HDM.out.2 (i - 1) (by have := HD1.out; omega)
                      rw [show i + 1 - 1 = i by omega]
                      omega
                    · rw [HDT.out]
                      have : D + 1 - (i + 1) = f := by have := HP.out.2.1; omega
                      rw [this]
                  case measure => have := HD1.out; simp [intOf]; omega
                · have h56i : (d : Int) < 56 := by omega
                  have hr : min 56 d = d := by omega
                  have hcut7 := fun W => run_cut_h (P := Tryd.prog) 38 5 Pl.byteTy (some ⟨g7, 4, none⟩) 56 c7 .i64 (d : Int) d rfl (by omega) W
                  have hrl : (cd.take d).length = d := by rw [List.length_take]; omega
                  have hbl8 : (b ++ cd.take d).length = nb + d := by rw [List.length_append, HBL2.out, hrl]
                  rw [hr] at HDT
                  have HN := Lib.hid (⟨hd, HP.out.2.2, hbl8⟩ : _ ∧ _ ∧ _)
                  have HRL := Lib.hid hrl
                  clear hd hr hrl ho7 hbl8
                  go_wp2_with fail
                  refine Ord.nx_end ?_
                  go_wp2_with
                    (at_builtin
                     refine wpList_append_bytes rfl (.tmp 103) (.tmp 110) _ rfl w5.heap.size _ Pl.byteTy A nb cb b rfl HO7.out (some ⟨g7, 4, none⟩) d c7 (cd.take d) rfl (HO7B.out.take d) HRL.out (nb + d) rfl (by omega) HR7.out.size ?_
                     intro A8 c8 w8 hown8 hgr8 hb8 hor8
                     have HO8 := Lib.hid hown8
                     have HB8 := Lib.hid (HR7.out.trans hb8)
                     clear hown8 hgr8 hb8 hor8)
                  go_roundw
                  case rel =>
                    refine ⟨rfl, i + 1, A8, nb + d, c8, b ++ cd.take d, by omega, by have := HD1.out; omega, by simp, rfl, HN.out.2.2, ?_, HO8.out, ?_, HB8.out⟩
                    · have h1 := HN.out.1
                      have h2 := HN.out.2.1
                      have h3 := HDM.out.2 (i - 1) (by have := HD1.out; omega)
                      rw [show i + 1 - 1 = i by omega]
                      omega
                    · rw [HDT.out]
                      have : D + 1 - (i + 1) = f := by have := HP.out.2.1; omega
                      rw [this]
                  case measure => have := HD1.out; simp [intOf]; omega
            · have hltI : ¬ (i : Int) < (D1 : Int) := by omega
              obtain rfl : i = D1 := by have := HD1.out; omega
              have HO4 : Hid (o = if (readM (T.getD (at_ + i) []) (tagM 3 i at_)).isSome ∧ Rec.nameM id = true then some (id, b) else none) := Lib.hid (by
                rw [HO3.out, HGO.out, show D + 1 - i = 0 by have := HD1.out; omega, HD1.out]
                rfl)
              obtain ⟨p, hp⟩ : ∃ p, at_ + i = p := ⟨_, rfl⟩
              have hadd2 : IntKind.i64.wrap ((at_ : Int) + (i : Int)) = (p : Int) := by rw [show (at_ : Int) + (i : Int) = (p : Int) by omega]; exact IntWalk.i64_in _ (by omega)
              have HPQ : Hid (p < H.length + ws.length) := Lib.hid (by have := HX.out; have := HQ.out; have := HD1.out; omega)
              rw [hp] at HO4
              have hi256 : i < 256 := by have := HD1.out; omega
              have HBLW := Lib.hid (HBL.out wr)
              clear hp hbn HO3 HGO
              go_wp2_with fail
              refine (HBL.out _).mono ?_
              rintro e _ ⟨rfl, rfl⟩
              go_wp2_with fail
              refine (HBL.out _).mono ?_
              rintro e _ ⟨rfl, rfl⟩
              go_wp2_with fail
              refine Ord.region_ordM [9] [6] [0, 1, 2, 3, 4, 5, 7, 8, 6, 9, 10, 11, 12, 13, 14, 15, 16] (by kernel_rfl) (by kernel_rfl) (by kernel_rfl) (by kernel_rfl) (Ord.ord_run [0, 1, 2, 3, 4, 5, 7, 8] [_, _, _, _, _, _, _, _] rfl (by kernel_rfl) ?_)
              go_wp2_with fail
              refine Ord.nx_ord (Ord.ord_pure (.int .i64 (p : Int)) rfl (by kernel_rfl) rfl (fun w' => by first | (go_simp; done) | (go_simp; exact hadd2)) ?_)
              simp only [Act.put, List.setIfInBounds_toArray]
              refine Ord.ord_oneM rfl (by kernel_rfl) ?_
              go_wp2_with fail
              refine (tagOf_c wr.drew 3 i at_ (by decide) hi256 (by omega)).mono ?_
              rintro e w6 ⟨rfl, hb6⟩
              have hb6' : Below wr.heap.size wr w6 := (show Below wr.heap.size wr wr.drew from below_drewN (Below.refl _ _) 1).trans hb6
              have HV6 := Lib.hid (HVW.out.below hb6')
              have HB6 := Lib.hid (HBW.out.trans (hb6'.mono HBW.out.size))
              have HO6 := Lib.hid (HOW.out.below hb6')
              have hrd := HV6.out.read hn p HPQ.out (tagM 3 i at_) rfl
              rw [HT.out] at hrd
              have HRD := Lib.hid hrd
              have HBX := Lib.hid hb6
              clear hb6 hb6' hrd
              go_wp2_with fail
              refine Ord.nx_and HBX.out (Ord.ord_all [_, _, _, _, _, _, _] rfl (by kernel_rfl) ?_)
              clear HBX
              go_wp2_with fail
              refine HRD.out.mono ?_
              rintro e w7 ⟨hb7, hr7⟩
              have HB7 := Lib.hid (HB6.out.trans (hb7.mono HB6.out.size))
              have HO7 := Lib.hid ((HO6.out.below hb7).mono HB5.out.size)
              clear HRD HV6 HB6 HO6 HVW HBW HOW HBR hb7 hv0 hv1 HBLW
              rcases hr7 with ⟨cd, g7, c7, hM7, rfl, -, -, -, -⟩ | ⟨hM7, rfl⟩
              · cases hnm : Rec.nameM id with
                | true =>
                  have HF : Hid (o = some (id, b)) := Lib.hid (by rw [HO4.out, hM7, hnm]; rfl)
                  have HNX := Lib.hid (fun w : World => by have := HNM.out w; rw [hnm] at this; exact this : ∀ w : World, Calls Tryd.prog 37 #[.string (Rec.S8 id)] w fun e w' => e = .returned (.bool true) ∧ w' = w)
                  clear hM7 HO4 hnm HNM
                  go_wp2_with fail
                  refine Ord.nx_end ?_
                  go_wp2_with fail
                  refine (HNX.out _).mono ?_
                  rintro e _ ⟨rfl, rfl⟩
                  go_wp2_with fail
                  refine bodyPost_ret (results_tmp4 rfl _ _ _) rfl ?_
                  exact ⟨HB7.out, id, A, nb, cb, b, by rw [HF.out]; rfl, HO7.out, fun x hx => by rw [HF.out] at hx; exact (Option.some.inj hx).symm⟩
                | false =>
                  have HF : Hid (o = none) := Lib.hid (by rw [HO4.out, hM7, hnm]; rfl)
                  have HNX := Lib.hid (fun w : World => by have := HNM.out w; rw [hnm] at this; exact this : ∀ w : World, Calls Tryd.prog 37 #[.string (Rec.S8 id)] w fun e w' => e = .returned (.bool false) ∧ w' = w)
                  clear hM7 HO4 hnm HNM
                  go_wp2_with fail
                  refine Ord.nx_end ?_
                  go_wp2_with fail
                  refine (HNX.out _).mono ?_
                  rintro e _ ⟨rfl, rfl⟩
                  go_wp2_with fail
                  refine bodyPost_ret (results_tmp4 rfl _ _ _) rfl ?_
                  exact ⟨HB7.out, id, A, nb, cb, b, by rw [HF.out]; rfl, HO7.out, fun x hx => by rw [HF.out] at hx; cases hx⟩
              · have HF : Hid (o = none) := Lib.hid (by rw [HO4.out, hM7]; rfl)
                clear hM7 HO4 HNM
                go_wp2_with fail
                refine Ord.nx_end ?_
                go_wp2_with fail
                refine bodyPost_ret (results_tmp4 rfl _ _ _) rfl ?_
                exact ⟨HB7.out, id, A, nb, cb, b, by rw [HF.out]; rfl, HO7.out, fun x hx => by rw [HF.out] at hx; cases hx⟩
end Go.Proofs.YtloffgoenaomkaaDoor.Col
