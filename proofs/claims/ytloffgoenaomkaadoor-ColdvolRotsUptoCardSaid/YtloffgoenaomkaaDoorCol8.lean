/- Layer 15 (coldvol): Read. -/
import Derived.Test.YtloffgoenaomkaaDoorCol7
import Derived.Test.YtloffgoenaomkaaDoorFold5
namespace Go.Proofs.YtloffgoenaomkaaDoor.Col
open Go Go.RowKit Mem Pl Disk Crc _root_.Go.Proofs.YtloffgoenaomkaaDoor.Frame Hash
/-- A place. -/
def placeV (x y z : Int) (bad : Bool) : Value := .agg #[.int .i64 x, .int .i64 y, .int .i64 z, .bool bad]
/-- What a place has. -/
def ansM (T : List (List UInt8)) (dev : Nat) (x y z : Int) : Option (List UInt8 × List UInt8) :=
  if x = dev ∧ 0 ≤ y ∧ y < (T.length : Int) then match objM T y.toNat with
    | some (id, b) => if (blocksZ (b.length : Int) : Int) = z then some (id, b) else none
    | none => none
  else none
/-- What 'Read' answers. -/
def RetRd (w : World) (o : Option (List UInt8 × List UInt8)) (e : Ending) (w' : World) : Prop :=
  Below w.heap.size w w' ∧ ((o = none ∧ e = .returned (.tuple #[.string (Rec.S8 []), .slice none 0 0, .int .i64 4])) ∨
    ∃ id A m cap b, o = some (id, b) ∧ e = .returned (.tuple #[.string (Rec.S8 id), .slice A m cap, .int .i64 0]) ∧ Own w' w.heap.size 5 A m cap b)
set_option maxRecDepth 100000 in
set_option maxHeartbeats 8000000 in
theorem vread_any {B : Nat} {w : World} {F : Nat → Prop} {a : Nat} {pm : PM} {n v dev N : Nat} {H ws : List (List UInt8)} (h : VS B w F a pm n v dev N H ws) (hn : n ≤ 1000000000) (x y z : Int) (bad : Bool) (hyb : y < 9223372036854775808) :
    Calls Tryd.prog 12 #[.pointer (some ⟨v, 0, none⟩), placeV x y z bad] w (RetRd w (ansM (H ++ ws) dev x y z)) := by
  have HV := Lib.hid h
  have hb1 := below_al' (w := w) (.cells #[.int .i64 x, .int .i64 y, .int .i64 z, .bool bad] 35)
  have hk1 := Blk.new w 35 #[.int .i64 x, .int .i64 y, .int .i64 z, .bool bad]
  have HV1 := Lib.hid (h.below hb1)
  have HB1 := Lib.hid hb1
  have HK1 := Lib.hid hk1
  have hv0 := (h.below hb1).vol.cell 0
  have hv1 := (h.below hb1).vol.cell 1
  simp at hv0 hv1
  have hON := on_any (h.below hb1).st.at_
  rw [h.on] at hON
  have HON := Lib.hid hON
  have hlen : (H ++ ws).length = H.length + ws.length := List.length_append
  obtain ⟨q, hq⟩ : ∃ q, H.length + ws.length = q := ⟨_, rfl⟩
  rw [hq] at hlen
  have HL := Lib.hid (⟨hlen, hq⟩ : _ ∧ _)
  have HSZ := Lib.hid (fun w' hb => size_any (w := w') (HV1.out.below hb).st.at_ HV1.out.st.ok (HV1.out.st.low hn) HV1.out.tp : ∀ w', Below (w.alloc (.cells #[.int .i64 x, .int .i64 y, .int .i64 z, .bool bad] 35)).heap.size (w.alloc (.cells #[.int .i64 x, .int .i64 y, .int .i64 z, .bool bad] 35)) w' → _)
  obtain ⟨o, ho⟩ : ∃ o, ansM (H ++ ws) dev x y z = o := ⟨_, rfl⟩
  have HO := Lib.hid ho
  rw [ho]
  clear h hb1 hk1 hON hlen ho hq
  have hw1 : w.heap.size < (w.alloc (.cells #[.int .i64 x, .int .i64 y, .int .i64 z, .bool bad] 35)).heap.size := by simp
  show Calls Tryd.prog 12 #[.pointer (some ⟨v, 0, none⟩), .agg #[.int .i64 x, .int .i64 y, .int .i64 z, .bool bad]] w _
  go_enter Tryd.func12, Tryd.ntmps12
  go_wp2_with fail
  refine HON.out.mono ?_
  rintro e _ ⟨rfl, rfl⟩
  generalize hwa : w.alloc (.cells #[.int .i64 x, .int .i64 y, .int .i64 z, .bool bad] 35) = wa at *
  have hk1 := HK1.out
  have kx := hk1.cell 0
  have ky := hk1.cell 1
  have kz := hk1.cell 2
  simp at kx ky kz
  have hbd : Below wa.heap.size wa wa.drew := below_drewN (Below.refl _ _) 1
  have HBD := Lib.hid hbd
  have HOW := Lib.hid (fun w' (hb : Below wa.heap.size wa w') => HB1.out.trans (hb.mono HB1.out.size) : ∀ w', Below wa.heap.size wa w' → Below w.heap.size w w')
  clear hk1 hbd hwa
  by_cases hxd : x = (dev : Int)
  · by_cases hy0 : y < 0
    · obtain rfl : o = none := by rw [← HO.out]; unfold ansM; rw [if_neg (by omega)]
      have HXD := Lib.hid hxd
      have hx1 : (x == (dev : Int)) = true := by simpa using hxd
      have hx2 : (x != (dev : Int)) = false := by simpa using hxd
      have hyd : decide (y < 0) = true := decide_eq_true hy0
      clear HO hxd hy0
      go_wp2_with fail
      refine Ord.region_ordM [] [14, 15, 16, 17, 18, 19, 20, 21] [0, 1, 2, 3, 4, 5, 6, 7, 8, 9, 10, 11, 12, 13, 14, 15, 16, 17, 18, 19, 20, 21, 22] (by kernel_rfl) (by kernel_rfl) (by kernel_rfl) (by kernel_rfl) (Ord.ord_run [0, 1, 2, 3, 4, 5, 6, 7, 8, 9, 10, 11, 12, 13] [_, _, _, _, _, _, _, _, _, _, _, _, _, _] rfl (by kernel_rfl) ?_)
      go_wp2_with fail
      refine Ord.nx_ord (ord_skips [14, 15, 16, 17, 18, 19, 20, 21] [_, _, _, _, _, _, _, _] _ rfl (by kernel_rfl) (by kernel_rfl) ?_)
      simp only [List.foldl, Act.put, List.setIfInBounds_toArray]
      refine Ord.ord_all [_] rfl (by kernel_rfl) ?_
      go_wp2_with fail
      refine Ord.nx_end ?_
      go_wp2_with fail
      go_ret3
      exact ⟨HOW.out _ HBD.out, .inl ⟨rfl, rfl⟩⟩
    · obtain ⟨p, rfl⟩ : ∃ p : Nat, y = (p : Int) := ⟨y.toNat, by omega⟩
      have HXD := Lib.hid hxd
      have hx1 : (x == (dev : Int)) = true := by simpa using hxd
      have hx2 : (x != (dev : Int)) = false := by simpa using hxd
      have hyi : ¬ (p : Int) < 0 := by omega
      have hyd : decide ((p : Int) < 0) = false := decide_eq_false hyi
      clear hxd hy0
      go_wp2_with fail
      refine Ord.region_ord [20] [0, 1, 2, 3, 4, 5, 6, 7, 8, 9, 10, 11, 12, 13, 14, 15, 16, 17, 18, 19, 20, 21, 22] (by kernel_rfl) (by kernel_rfl) (by kernel_rfl) (by kernel_rfl) (Ord.ord_run [0, 1, 2, 3, 4, 5, 6, 7, 8, 9, 10, 11, 12, 13, 14, 15, 16, 17, 18, 19] [_, _, _, _, _, _, _, _, _, _, _, _, _, _, _, _, _, _, _, _] rfl (by kernel_rfl) ?_)
      go_wp2_with fail
      refine Ord.nx_ord (Ord.ord_one rfl ?_)
      go_wp2_with fail
      refine (HSZ.out _ HBD.out).mono ?_
      rintro e w2 ⟨rfl, hb2⟩
      have HBX := Lib.hid hb2
      have hb2' : Below wa.heap.size wa w2 := HBD.out.trans hb2
      have HB2 := Lib.hid hb2'
      have HV2 := Lib.hid (HV1.out.below hb2')
      have HK2 := Lib.hid (HK1.out.below_ hb2')
      clear hb2 hb2' kx ky kz hv0 hv1
      rw [HL.out.2]
      go_wp2_with fail
      refine Ord.nx_and HBX.out (Ord.ord_all [_, _] rfl (by kernel_rfl) ?_)
      clear HBX
      by_cases hpq : q ≤ p
      · obtain rfl : o = none := by rw [← HO.out]; unfold ansM; rw [if_neg (by have := HL.out.1; omega)]
        have hpi : (q : Int) ≤ (p : Int) := by omega
        clear HO hpq
        go_wp2_with fail
        refine Ord.nx_end ?_
        go_wp2_with fail
        go_ret3
        exact ⟨HOW.out _ HB2.out, .inl ⟨rfl, rfl⟩⟩
      · have hpi : ¬ (q : Int) ≤ (p : Int) := by omega
        have HO2 : Hid (o = match objM (H ++ ws) p with
            | some (id, b) => if (blocksZ (b.length : Int) : Int) = z then some (id, b) else none
            | none => none) := Lib.hid (by rw [← HO.out]; unfold ansM; rw [if_pos ⟨HXD.out, by omega, by have := HL.out.1; omega⟩]; rfl)
        have HOB := Lib.hid (object_any HV2.out hn p (by rw [HL.out.2]; omega))
        have ky2 := HK2.out.cell 1
        simp at ky2
        obtain ⟨ob, hob⟩ : ∃ ob, objM (H ++ ws) p = ob := ⟨_, rfl⟩
        rw [hob] at HO2 HOB
        clear HO hpq hob
        go_wp2_with fail
        refine Ord.nx_end ?_
        go_wp2_with fail
        refine HOB.out.mono ?_
        rintro e w3 ⟨hb3, id, A, m, cap, b, rfl, ho3, hr3⟩
        have HB3 := Lib.hid (HOW.out _ (HB2.out.trans (hb3.mono HB2.out.size)))
        have HO3 := Lib.hid (ho3.mono (Nat.le_trans HB1.out.size HB2.out.size))
        have hkz := (HK2.out.below_ hb3).cell 2
        simp at hkz
        have hlm : b.length = m := ho3.len
        have HR3 := Lib.hid hr3
        clear hb3 ho3 hr3 HOB HV2 HK2 ky2
        cases ob with
        | none =>
          obtain rfl : o = none := HO2.out
          clear HO2 HR3
          go_wp2_with fail
          refine Ord.region_ordM [] [3, 4, 5, 6, 7, 8] [0, 1, 2, 3, 4, 5, 6, 7, 8, 9, 10] (by kernel_rfl) (by kernel_rfl) (by kernel_rfl) (by kernel_rfl) (Ord.ord_run [0, 1, 2] [_, _, _] rfl (by kernel_rfl) ?_)
          go_wp2_with fail
          refine Ord.nx_ord (ord_skips [3, 4, 5, 6, 7, 8] [_, _, _, _, _, _] _ rfl (by kernel_rfl) (by kernel_rfl) ?_)
          simp only [List.foldl, Act.put, List.setIfInBounds_toArray]
          refine Ord.ord_all [_, _] rfl (by kernel_rfl) ?_
          go_wp2_with fail
          refine Ord.nx_end ?_
          go_wp2_with fail
          go_ret3
          exact ⟨HB3.out.trans (below_drewN (Below.refl _ _) 1 |>.mono HB3.out.size), .inl ⟨rfl, rfl⟩⟩
        | some xx =>
          obtain rfl := HR3.out xx rfl
          have HBK := Lib.hid (fun w : World => by have := blocks_any w (m : Int); exact this : ∀ w : World, Calls Tryd.prog 18 #[.int .i64 (m : Int)] w fun e w' => e = .returned (.int .i64 (blocksZ (m : Int) : Int)) ∧ w = w')
          have HO4 : Hid (o = if (blocksZ (m : Int) : Int) = z then some (id, b) else none) := Lib.hid (by rw [HO2.out]; simp only [hlm])
          obtain ⟨s, hs⟩ : ∃ s : Nat, blocksZ (m : Int) = s := ⟨_, rfl⟩
          rw [hs] at HBK HO4
          clear HO2 HR3 hs
          by_cases hz : (s : Int) = z
          · have HF : Hid (o = some (id, b)) := Lib.hid (by rw [HO4.out, if_pos hz])
            subst hz
            clear HO4
            go_wp2_with fail
            refine Ord.region_ord [5] [0, 1, 2, 3, 6, 7, 4, 5, 8, 9, 10] (by kernel_rfl) (by kernel_rfl) (by kernel_rfl) (by kernel_rfl) (Ord.ord_run [0, 1, 2, 3, 6, 7, 4] [_, _, _, _, _, _, _] rfl (by kernel_rfl) ?_)
            go_wp2_with fail
            refine Ord.nx_ord (Ord.ord_one rfl ?_)
            go_wp2_with fail
            refine (HBK.out _).mono ?_
            rintro e _ ⟨rfl, rfl⟩
            go_wp2_with fail
            refine Ord.nx_and (Below.refl _ _) (Ord.ord_all [_, _, _] rfl (by kernel_rfl) ?_)
            go_wp2_with fail
            refine Ord.nx_end ?_
            go_wp2_with fail
            go_ret3
            exact ⟨HB3.out.trans (below_drewN (Below.refl _ _) 1 |>.mono HB3.out.size), .inr ⟨id, A, m, cap, b, HF.out, rfl, HO3.out⟩⟩
          · have HF : Hid (o = none) := Lib.hid (by rw [HO4.out, if_neg hz])
            have hz1 : ((s : Int) == z) = false := by simpa using hz
            have hz2 : ((s : Int) != z) = true := by simpa using hz
            clear HO4
            go_wp2_with fail
            refine Ord.region_ord [5] [0, 1, 2, 3, 6, 7, 4, 5, 8, 9, 10] (by kernel_rfl) (by kernel_rfl) (by kernel_rfl) (by kernel_rfl) (Ord.ord_run [0, 1, 2, 3, 6, 7, 4] [_, _, _, _, _, _, _] rfl (by kernel_rfl) ?_)
            go_wp2_with fail
            refine Ord.nx_ord (Ord.ord_one rfl ?_)
            go_wp2_with fail
            refine (HBK.out _).mono ?_
            rintro e _ ⟨rfl, rfl⟩
            go_wp2_with fail
            refine Ord.nx_and (Below.refl _ _) (Ord.ord_all [_, _, _] rfl (by kernel_rfl) ?_)
            go_wp2_with fail
            refine Ord.nx_end ?_
            go_wp2_with fail
            go_ret3
            exact ⟨HB3.out.trans (below_drewN (Below.refl _ _) 1 |>.mono HB3.out.size), .inl ⟨HF.out, rfl⟩⟩
  · obtain rfl : o = none := by rw [← HO.out]; unfold ansM; rw [if_neg (fun h => hxd h.1)]
    have hx1 : (x == (dev : Int)) = false := by simpa using hxd
    have hx2 : (x != (dev : Int)) = true := by simpa using hxd
    clear HO
    go_wp2_with fail
    refine Ord.region_ordM [] [9, 10, 11, 14, 15, 16, 17, 18, 19, 20, 21] [0, 1, 2, 3, 4, 5, 6, 7, 8, 9, 10, 11, 12, 13, 14, 15, 16, 17, 18, 19, 20, 21, 22] (by kernel_rfl) (by kernel_rfl) (by kernel_rfl) (by kernel_rfl) (Ord.ord_run [0, 1, 2, 3, 4, 5, 6, 7, 8] [_, _, _, _, _, _, _, _, _] rfl (by kernel_rfl) ?_)
    go_wp2_with fail
    refine Ord.nx_ord (ord_skips [9, 10, 11] [_, _, _] _ rfl (by kernel_rfl) (by kernel_rfl) ?_)
    simp only [List.foldl, Act.put, List.setIfInBounds_toArray]
    refine Ord.ord_run [12, 13] [_, _] rfl (by kernel_rfl) ?_
    go_wp2_with fail
    refine Ord.nx_ord (ord_skips [14, 15, 16, 17, 18, 19, 20, 21] [_, _, _, _, _, _, _, _] _ rfl (by kernel_rfl) (by kernel_rfl) ?_)
    simp only [List.foldl, Act.put, List.setIfInBounds_toArray]
    refine Ord.ord_all [_] rfl (by kernel_rfl) ?_
    go_wp2_with fail
    refine Ord.nx_end ?_
    go_wp2_with fail
    go_ret3
    exact ⟨HOW.out _ HBD.out, .inl ⟨rfl, rfl⟩⟩
end Go.Proofs.YtloffgoenaomkaaDoor.Col
