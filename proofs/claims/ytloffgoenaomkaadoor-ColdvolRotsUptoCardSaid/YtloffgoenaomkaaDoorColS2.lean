/- Layer 15 (coldvol): Seal, walked. -/
import Derived.Test.YtloffgoenaomkaaDoorColS
namespace Go.Proofs.YtloffgoenaomkaaDoor.Col
open Go Go.RowKit Mem Pl Disk Crc _root_.Go.Proofs.YtloffgoenaomkaaDoor.Frame Hash Sha
/-- The two blocks of a seal. -/
def sealBs (at_ : Nat) (r : List UInt8) : List (List UInt8) := [blkM (tagM 4 0 at_) r, blkM (tagM 5 1 at_) []]
theorem eachGo_len (T : List (List UInt8)) : ∀ (f at_ : Nat), (eachGo T f at_).length ≤ T.length - at_
  | 0, _ => Nat.zero_le _
  | f + 1, at_ => by
    unfold eachGo
    split
    · split
      · exact Nat.zero_le _
      · rename_i id b _
        have := eachGo_len T f (at_ + (2 + dataN b.length))
        simp only [List.length_cons]
        omega
    · exact Nat.zero_le _
/-- What 'Seal' leaves. -/
def SealP (B : Nat) (w : World) (F : Nat → Prop) (a : Nat) (pm : PM) (n v dev N : Nat) (H ws : List (List UInt8)) (e : Ending) (w' : World) : Prop :=
  (((rootM (H ++ ws)).isSome = true ∨ N - (H.length + ws.length) < 2) ∧ e = .returned (.int .i64 3) ∧ Below w.heap.size w w') ∨
  ((rootM (H ++ ws)).isSome = false ∧ 2 ≤ N - (H.length + ws.length) ∧ ∃ (F' : Nat → Prop) (pm' : PM), Frm B w F a pm (n + 3) dev F' pm' w' ∧
    ((e = .returned (.int .i64 0) ∧ VS B w' F' a pm' (n + 3) v dev N (H ++ ws ++ sealBs (H.length + ws.length) (rootOf (eachM (H ++ ws)))) []) ∨
     (e = .returned (.int .i64 2) ∧ pm.fuse ≠ none ∧ pm'.off = true)))
set_option maxRecDepth 100000 in
set_option maxHeartbeats 8000000 in
theorem vseal_any {B : Nat} {w : World} {F : Nat → Prop} {a : Nat} {pm : PM} {n v dev N : Nat} {H ws : List (List UInt8)} (h : VS B w F a pm n v dev N H ws) (hn : n ≤ 900000000) (hkt : Ktab w) (hgk : 1 < w.heap.size) :
    Calls Tryd.prog 14 #[.pointer (some ⟨v, 0, none⟩)] w (SealP B w F a pm n v dev N H ws) := by
  have hn2 : n ≤ 1000000000 := by omega
  have HV := Lib.hid h
  have HKT := Lib.hid hkt
  have HR := Lib.hid (vroot_any h hn2)
  have hal := run_allocHash
  have hrm := h.room
  have HRM := Lib.hid hrm
  clear h hkt hrm
  go_enter Tryd.func14, Tryd.ntmps14
  go_wp2_with fail
  refine HR.out.mono ?_
  rintro e w1 ⟨rfl, hb1⟩
  have hkz := Blk.new w1 44 (cellsOf z32)
  have HKZ := Lib.hid hkz
  have HBZ := Lib.hid (hb1.alloc hb1.size (.cells (cellsOf z32) 44))
  obtain ⟨r, hr⟩ : ∃ r, (rootM (H ++ ws)).getD z32 = r := ⟨_, rfl⟩
  have hrl : r.length = 32 := by rw [← hr]; exact rootM_len
  have hsz := hb1.size
  rw [hr]
  obtain ⟨s, hs⟩ : ∃ s, (rootM (H ++ ws)).isSome = s := ⟨_, rfl⟩
  have HS := Lib.hid hs
  rw [hs]
  clear hr hs hb1 hkz HR
  cases s with
  | true =>
    go_wp2_with (first
      | (refine wpList_store_hash rfl (.tmp 3) (.tmp 15) rfl w1.heap.size _ z32 r rfl rfl HKZ.out rfl hrl ?_
         intro w2 hk2 hg2 hz2))
    have hb2 := HBZ.out.grown hg2 HBZ.out.size (fun k hk => by injection hk with hk; omega)
    have HB2 := Lib.hid hb2
    clear hk2 hg2 hz2 hb2 HBZ HKZ hal
    refine Ord.region_ordM [] [2, 3, 4, 5, 6, 7, 8, 9, 10, 11, 12, 13] [0, 1, 2, 3, 4, 5, 6, 7, 8, 9, 10, 11, 12, 13, 14] (by kernel_rfl) (by kernel_rfl) (by kernel_rfl) (by kernel_rfl) (Ord.ord_run [0, 1] [_, _] rfl (by kernel_rfl) ?_)
    go_wp2_with fail
    refine Ord.nx_ord (ord_skips [2, 3, 4, 5, 6, 7, 8, 9, 10, 11, 12, 13] [_, _, _, _, _, _, _, _, _, _, _, _] _ rfl (by kernel_rfl) (by kernel_rfl) ?_)
    simp only [List.foldl, Act.put, List.setIfInBounds_toArray]
    refine Ord.ord_all [_] rfl (by kernel_rfl) ?_
    go_wp2_with fail
    refine Ord.nx_end ?_
    go_wp2_with fail
    go_ret
    exact .inl ⟨.inl HS.out, rfl, HB2.out.trans (below_drewN (Below.refl _ _) 1 |>.mono HB2.out.size)⟩
  | false =>
    go_wp2_with (first
      | (refine wpList_store_hash rfl (.tmp 3) (.tmp 15) rfl w1.heap.size _ z32 r rfl rfl HKZ.out rfl hrl ?_
         intro w2 hk2 hg2 hz2))
    have hb2 := HBZ.out.grown hg2 HBZ.out.size (fun k hk => by injection hk with hk; omega)
    have HB2 := Lib.hid hb2
    clear hk2 hg2 hz2 hb2 HBZ HKZ hal
    have hv2 := HV.out.below HB2.out
    have hv0 := hv2.vol.cell 0
    have hv1 := hv2.vol.cell 1
    simp at hv0 hv1
    have HV2 := Lib.hid hv2
    have hrm := hv2.room
    have HMO := Lib.hid (most_any (w := w2.drew) (hv2.st.below (below_drewN (Below.refl _ _) 1)).at_ hv2.st.ok (j := dev - pm.disks.length) (dev := dev) (by omega) hrm.2.2.1 (by omega))
    clear hrm hv2
    refine Ord.region_ord [6] [0, 1, 2, 3, 4, 5, 7, 8, 9, 10, 6, 11, 12, 13, 14] (by kernel_rfl) (by kernel_rfl) (by kernel_rfl) (by kernel_rfl) (Ord.ord_run [0, 1, 2, 3, 4, 5, 7, 8, 9, 10] [_, _, _, _, _, _, _, _, _, _] rfl (by kernel_rfl) ?_)
    go_wp2_with fail
    refine Ord.nx_ord (Ord.ord_one rfl ?_)
    go_wp2_with fail
    refine HMO.out.mono ?_
    rintro e w3 ⟨rfl, hb3⟩
    have hb3' : Below w2.heap.size w2 w3 := (show Below w2.heap.size w2 w2.drew from below_drewN (Below.refl _ _) 1).trans hb3
    have hv3 := HV2.out.below hb3'
    have HB3 := Lib.hid (HB2.out.trans (hb3'.mono HB2.out.size))
    have HSZ := Lib.hid (size_any hv3.st.at_ hv3.st.ok (hv3.st.low hn2) hv3.tp)
    have HV3 := Lib.hid hv3
    have HBX := Lib.hid hb3
    clear hb3 hb3' hv3 HV2 HB2 HMO hv0 hv1
    go_wp2_with fail
    refine Ord.nx_and HBX.out (Ord.ord_all [_, _, _, _] rfl (by kernel_rfl) ?_)
    clear HBX
    go_wp2_with fail
    refine HSZ.out.mono ?_
    rintro e w4 ⟨rfl, hb4⟩
    have HB4 := Lib.hid (HB3.out.trans (hb4.mono HB3.out.size))
    have HV4 := Lib.hid (HV3.out.below hb4)
    obtain ⟨q, hq⟩ : ∃ q, H.length + ws.length = q := ⟨_, rfl⟩
    obtain ⟨m, hm⟩ : ∃ m, N = q + m := ⟨N - q, by have := HRM.out; omega⟩
    have hm4 : q + m ≤ 4096 := by have := HRM.out; omega
    have e1 : IntKind.i64.wrap ((N : Int) - (q : Int)) = (m : Int) := by rw [hm, show ((q + m : Nat) : Int) - (q : Int) = (m : Int) by omega]; exact IntWalk.i64_in _ (by omega)
    have HQ := Lib.hid (⟨hq, hm, hm4⟩ : _ ∧ _ ∧ _)
    rw [hq]
    clear hq hm hm4 HSZ hb4 HB3 HV3
    by_cases h2 : m < 2
    · have hmi : (m : Int) < 2 := by omega
      have HE : Hid (N - (H.length + ws.length) < 2) := Lib.hid (by have := HQ.out; omega)
      clear h2
      go_wp2_with fail
      refine Ord.nx_end ?_
      go_wp2_with fail
      go_ret
      exact .inl ⟨.inr HE.out, rfl, HB4.out⟩
    · have hmi : ¬ (m : Int) < 2 := by omega
      have HM2 := Lib.hid h2
      have HNG := Lib.hid (newGrow_any w4)
      clear h2
      go_wp2_with fail
      refine Ord.nx_end ?_
      go_wp2_with fail
      refine HNG.out.mono ?_
      rintro e w5 ⟨rfl, hgr, hb5⟩
      have h2d : decide (m < 2) = false := decide_eq_false HM2.out
      have h2d2 : decide ((m : Int) < 2) = false := decide_eq_false (by omega)
      have hm5 := hgr (fun x => w4.heap.size ≤ x ∧ x < (w5.alloc (.cells #[.pointer (some ⟨w4.heap.size, 0, none⟩)] 101)).heap.size ∧ x ≠ w5.heap.size)
      have hba5 := below_al' (w := w5) (.cells #[.pointer (some ⟨w4.heap.size, 0, none⟩)] 101)
      have hb5a := hb5.trans (hba5.mono hb5.size)
      have hw4 : w.heap.size ≤ w4.heap.size := HB4.out.size
      have hsi : SealI w4.heap.size w5.heap.size [] (w5.alloc (.cells #[.pointer (some ⟨w4.heap.size, 0, none⟩)] 101)) :=
        ⟨hm5.below hba5, Blk.new w5 _ _, HKT.out.below (HB4.out.trans (hb5a.mono hw4)) hgk⟩
      have HEA := Lib.hid (each_any HV4.out hn2 hb5a 46 w5.heap.size callFunc_seal1 (SealI w4.heap.size w5.heap.size) hsi
        (fun pre wa wb hi hb => hi.below (by
          obtain ⟨v', hk', _⟩ := hi.1
          have := hk'.lt
          omega) hb) (seal_see w4 w4.heap.size w5.heap.size dev (Nat.le_refl _) (by omega)))
      have HGR := Lib.hid hgr
      have hgl : w4.heap.size < w5.heap.size := by
        obtain ⟨v', hk', _⟩ := hgr (fun _ => False)
        exact hk'.lt
      clear hgr hm5 hba5 hb5a hsi HNG hb5
      go_wp2_with fail
      refine HEA.out.mono ?_
      rintro e w6 ⟨rfl, hi6, hb6⟩
      obtain ⟨L, hL⟩ : ∃ L, eachM (H ++ ws) = L := ⟨_, rfl⟩
      rw [hL] at hi6
      have hLl : L.length ≤ 1000000 := by
        have h1 := eachGo_len (H ++ ws) ((H ++ ws).length + 1) 0
        have h2 : (eachM (H ++ ws)).length ≤ (H ++ ws).length - 0 := h1
        rw [hL, List.length_append] at h2
        have := HRM.out
        omega
      obtain ⟨RT, hRT⟩ : ∃ RT, rootOf L = RT := ⟨_, rfl⟩
      have hRl : RT.length = 32 := by
        rw [← hRT]
        obtain ⟨_, _, hr', _⟩ := hi6.1
        exact topM_len hr'.2
      have HL := Lib.hid (⟨hL, hRT⟩ : _ ∧ _)
      have HI6 := Lib.hid hi6
      have cg6 := hi6.2.1.cell 0
      simp at cg6
      have hgl6 := hi6.2.1.lt
      have HB6 := Lib.hid (HB4.out.trans (hb6.mono hw4))
      have hv6 := HV4.out.below hb6
      have hv0 := hv6.vol.cell 0
      have hv1 := hv6.vol.cell 1
      simp at hv0 hv1
      have HSZ := Lib.hid (fun w' (hb : Below w6.heap.size w6 w') => size_any (w := w') (hv6.below hb).st.at_ (hv6.below hb).st.ok ((hv6.below hb).st.low hn2) (hv6.below hb).tp)
      rw [HQ.out.1] at HSZ
      have hk6 : 1 < w6.heap.size := by have := hb6.size; omega
      have HGT : Hid (∀ w', Below w6.heap.size w6 w' → Calls Tryd.prog 49 #[.pointer (some ⟨w4.heap.size, 0, none⟩)] w' fun e w'' => e = .returned (.agg (cellsOf RT)) ∧ Below w'.heap.size w' w'') :=
        Lib.hid (fun w' hb => by
          have h1 := groot_any w' _ w4.heap.size L.length (addAll (leavesM L) 0 []) ((hi6.below hk6 hb).1) hLl (hi6.below hk6 hb).2.2 (by have := hb.size; omega)
          have e1 : topM (addAll (leavesM L) 0 []) = RT := hRT
          rw [e1] at h1
          exact h1)
      have HV6 := Lib.hid hv6
      have hal := run_allocHash
      clear hL hLl hRT hi6 hb6 hv6 hk6 HEA HV4 HGR HB4
      go_upto_region 6 with fail
      go_cut [6, 7] from 36 to 42 (fun av rv wc => av = .int .i64 (q : Int) ∧ ∃ gx, rv = .pointer (some ⟨gx, 0, none⟩) ∧ w6.heap.size ≤ gx ∧ Blk wc gx 44 (cellsOf RT) ∧ Below w6.heap.size w6 wc)
      case first =>
        have hbd : Below w6.heap.size w6 w6.drew := below_drewN (Below.refl _ _) 1
        have HBD := Lib.hid hbd
        clear hbd
        refine Ord.tb_start [4, 6] (by kernel_rfl) (Ord.tb_pre [0, 1, 2, 3, 5] [_, _, _, _, _] (k := 5) (by kernel_rfl) rfl rfl (by kernel_rfl) ?_)
        go_wp2_with fail
        refine Ord.nx_tb (Ord.tb_fork (i := 4) (j := 7) (k := 4) (by kernel_rfl) rfl rfl ?_ ?_)
        · go_wp2_with fail
          refine (HSZ.out _ HBD.out).mono ?_
          rintro e w7 ⟨rfl, hb7⟩
          have HB7 := Lib.hid (⟨hb7, HBD.out.trans hb7⟩ : _ ∧ _)
          clear hb7
          go_wp2_with fail
          refine Ord.nx_tb2 HB7.out.1 (Ord.tb_fork (i := 6) (j := 7) (k := 3) (by kernel_rfl) rfl rfl ?_ ?_)
          · go_wp2_with fail
            refine (HGT.out _ HB7.out.2).mono ?_
            rintro e w8 ⟨rfl, hb8⟩
            have HB8 := Lib.hid (⟨hb8, HB7.out.2.trans (hb8.mono HB7.out.2.size)⟩ : _ ∧ _)
            clear hb8
            go_wp2_with fail
            refine Ord.nx_tb2 HB8.out.1 (Ord.tb_ords [7, 8, 9] (by kernel_rfl) rfl (by kernel_rfl) (Ord.ord_all [_, _, _] rfl (by kernel_rfl) ?_))
            have HN9 := Lib.hid (Blk.new w8 44 (cellsOf z32))
            go_wp2_with
              (refine wpList_store_hash rfl (.tmp 7) (.tmp 42) rfl w8.heap.size _ z32 RT rfl rfl HN9.out rfl hRl ?_
               intro w9 hk9 hg9 hz9)
            have HX9 := Lib.hid (⟨hk9, (HB8.out.2.alloc HB8.out.2.size (.cells (cellsOf z32) 44)).grown hg9 (by simp; have := HB8.out.2.size; omega) (fun k hk => by injection hk with hk; have := HB8.out.2.size; omega)⟩ : _ ∧ _)
            clear hk9 hg9 hz9
            go_wp2_with fail
            refine Ord.nx_end ?_
            go_wp2_with fail
            go_meet
            exact ⟨rfl, _, rfl, HB8.out.2.size, HX9.out.1, HX9.out.2⟩
          · go_wp2_with fail
            have hbA : Below w6.heap.size w6 (w7.alloc (.cells (cellsOf z32) 44)) := HB7.out.2.alloc HB7.out.2.size _
            have HBA := Lib.hid hbA
            clear hbA
            refine Ord.nx_tb2 (below_al' _) (Ord.tb_ords [6, 8, 9] (by kernel_rfl) rfl (by kernel_rfl) (Ord.ord_one rfl ?_))
            go_wp2_with fail
            refine (HGT.out _ HBA.out).mono ?_
            rintro e w8 ⟨rfl, hb8⟩
            have HB8 := Lib.hid (⟨hb8, HBA.out.trans (hb8.mono HBA.out.size)⟩ : _ ∧ _)
            have HN9 := Lib.hid ((Blk.new w7 44 (cellsOf z32)).below_ hb8)
            clear hb8
            go_wp2_with fail
            refine Ord.nx_and HB8.out.1 (Ord.ord_all [_, _] rfl (by kernel_rfl) ?_)
            go_wp2_with
              (refine wpList_store_hash rfl (.tmp 7) (.tmp 42) rfl w7.heap.size _ z32 RT rfl rfl HN9.out rfl hRl ?_
               intro w9 hk9 hg9 hz9)
            have HX9 := Lib.hid (⟨hk9, HB8.out.2.grown hg9 HB8.out.2.size (fun k hk => by injection hk with hk; have := HB7.out.2.size; omega)⟩ : _ ∧ _)
            clear hk9 hg9 hz9
            go_wp2_with fail
            refine Ord.nx_end ?_
            go_wp2_with fail
            go_meet
            exact ⟨rfl, _, rfl, HB7.out.2.size, HX9.out.1, HX9.out.2⟩
        · go_wp2_with fail
          have hbA : Below w6.heap.size w6 (w6.drew.alloc (.cells (cellsOf z32) 44)) := HBD.out.trans (show Below w6.drew.heap.size w6.drew _ from below_al' (w := w6.drew) _)
          have HBA := Lib.hid hbA
          clear hbA
          refine Ord.nx_tb2 (below_al' _) (Ord.tb_ords [4, 6, 8, 9] (by kernel_rfl) rfl (by kernel_rfl) (Ord.ord_one rfl ?_))
          go_wp2_with fail
          refine (HSZ.out _ HBA.out).mono ?_
          rintro e w7 ⟨rfl, hb7⟩
          have HB7 := Lib.hid (⟨hb7, HBA.out.trans (hb7.mono HBA.out.size)⟩ : _ ∧ _)
          have HN7 := Lib.hid ((Blk.new w6.drew 44 (cellsOf z32)).below_ hb7)
          clear hb7
          go_wp2_with fail
          refine Ord.nx_and HB7.out.1 (Ord.ord_one rfl ?_)
          go_wp2_with fail
          refine (HGT.out _ HB7.out.2).mono ?_
          rintro e w8 ⟨rfl, hb8⟩
          have HB8 := Lib.hid (⟨hb8, HB7.out.2.trans (hb8.mono HB7.out.2.size)⟩ : _ ∧ _)
          have HN9 := Lib.hid (HN7.out.below_ hb8)
          clear hb8
          go_wp2_with fail
          refine Ord.nx_and HB8.out.1 (Ord.ord_all [_, _] rfl (by kernel_rfl) ?_)
          go_wp2_with
            (refine wpList_store_hash rfl (.tmp 7) (.tmp 42) rfl w6.heap.size _ z32 RT rfl rfl HN9.out rfl hRl ?_
             intro w9 hk9 hg9 hz9)
          have HX9 := Lib.hid (⟨hk9, HB8.out.2.grown hg9 HB8.out.2.size (fun k hk => by injection hk with hk; omega)⟩ : _ ∧ _)
          clear hk9 hg9 hz9
          go_wp2_with fail
          refine Ord.nx_end ?_
          go_wp2_with fail
          go_meet
          exact ⟨rfl, _, rfl, Nat.le_refl _, HX9.out.1, HX9.out.2⟩
      case rest =>
        obtain ⟨rfl, gx, rfl, hgx, hkx, hbc⟩ := hcut
        have HBX := Lib.hid (⟨hkx, HB6.out.trans (hbc.mono HB6.out.size)⟩ : _ ∧ _)
        have HVC := Lib.hid (HV6.out.below hbc)
        clear hgx hkx hbc HSZ HGT HV6 hv0 hv1 HI6 cg6 hal HB6
        have hsl := fun W => run_hashAll gx W
        have hq5 : q < 65536 := by have := HQ.out; omega
        have HT4 := Lib.hid (fun w' : World => tagOf_c w' 4 0 q (by decide) (by decide) hq5)
        have HT5 := Lib.hid (fun w' : World => tagOf_c w' 5 1 q (by decide) (by decide) hq5)
        have hbd : Below wc.heap.size wc wc.drew := below_drewN (Below.refl _ _) 1
        have HBD := Lib.hid hbd
        clear hbd
        go_upto_region 7 with fail
        refine Ord.region_ord [] [0, 2, 4, 9, 1, 3, 5, 6, 7, 8] (by kernel_rfl) (by kernel_rfl) (by kernel_rfl) (by kernel_rfl) (Ord.ord_all [_, _, _, _, _, _, _, _, _, _] rfl (by kernel_rfl) ?_)
        go_wp2_with fail
        refine (HT4.out _).mono ?_
        rintro e w7 ⟨rfl, hb7⟩
        have hb7' : Below wc.heap.size wc w7 := HBD.out.trans hb7
        have HV7 := Lib.hid (HVC.out.below hb7')
        have HB7 := Lib.hid hb7'
        have HBK := Lib.hid (block_any (w := w7) (tagM 4 0 q) rfl (some ⟨gx, 0, none⟩) 32 32 RT (HBX.out.1.below_ hb7').bat hRl (by decide) (fun h0 => by cases h0) HV7.out.tab HV7.out.gc)
        clear hb7 hb7' HVC
        go_wp2_with fail
        refine HBK.out.mono ?_
        rintro e w8 ⟨g8, rfl, hg8, hk8, hb8⟩
        have HB8 := Lib.hid (HB7.out.trans (hb8.mono HB7.out.size))
        have HV8 := Lib.hid (HV7.out.below hb8)
        have HK8 := Lib.hid (⟨hg8, hk8⟩ : _ ∧ _)
        clear hg8 hk8 hb8 HBK HV7
        go_wp2_with fail
        refine (HT5.out _).mono ?_
        rintro e w9 ⟨rfl, hb9⟩
        have HB9 := Lib.hid (HB8.out.trans (hb9.mono HB8.out.size))
        have HV9 := Lib.hid (HV8.out.below hb9)
        have HK9 := Lib.hid (HK8.out.2.below_ hb9)
        have HBK := Lib.hid (block_any (w := w9) (tagM 5 1 q) rfl none 0 0 [] (BAt.nil_ _ _) rfl (by decide) (fun _ => rfl) HV9.out.tab HV9.out.gc)
        clear hb9 HV8
        go_wp2_with fail
        refine HBK.out.mono ?_
        rintro e w11 ⟨g11, rfl, hg11, hk11, hb11⟩
        have hba := below_al' (w := w11) (.cells #[.slice (some ⟨g8, 0, none⟩) 64 64, .slice (some ⟨g11, 0, none⟩) 64 64] 38)
        have HB11 := Lib.hid (HB9.out.trans (hb11.mono HB9.out.size))
        have HB12 := Lib.hid (HB11.out.trans (hba.mono HB11.out.size))
        have HV12 := Lib.hid ((HV9.out.below hb11).below hba)
        have HK12 := Lib.hid (⟨(HK9.out.below_ hb11).below_ hba, hk11.below_ hba, Blk.new w11 38 #[.slice (some ⟨g8, 0, none⟩) 64 64, .slice (some ⟨g11, 0, none⟩) 64 64]⟩ : _ ∧ _ ∧ _)
        have HG12 : Hid (wc.heap.size ≤ g8 ∧ wc.heap.size ≤ g11 ∧ wc.heap.size ≤ w11.heap.size) := Lib.hid ⟨by have := HK8.out.1; have := HB7.out.size; omega, by have := HB9.out.size; omega, HB11.out.size⟩
        have HBW12 := Lib.hid (HBX.out.2.trans (HB12.out.mono HBX.out.2.size))
        have hsz12 : (w11.alloc (.cells #[.slice (some ⟨g8, 0, none⟩) 64 64, .slice (some ⟨g11, 0, none⟩) 64 64] 38)).heap.size = w11.heap.size + 1 := by simp
        have HW12 := Lib.hid hsz12
        have hwc := HBX.out.2.size
        clear hba hg11 hk11 hb11 HBK HV9 HK9 HK8 HB11 HB9 HB8 HB7 HB12 hsz12 HT4 HT5 HBD hsl
        go_wp2_with fail
        generalize w11.alloc (.cells #[.slice (some ⟨g8, 0, none⟩) 64 64, .slice (some ⟨g11, 0, none⟩) 64 64] 38) = w12 at *
        refine Ord.nx_end ?_
        go_wp2_with fail
        have HFL : Hid (∀ g, F g → g < w.heap.size) := Lib.hid (fun g hg => (HV.out.st.lt g hg).2)
        have hbl4 : (blkM (tagM 4 0 q) RT).length = 64 := blkM_len rfl (by omega)
        have hbl5 : (blkM (tagM 5 1 q) []).length = 64 := blkM_len rfl (by decide)
        have HBL := Lib.hid (⟨hbl4, hbl5⟩ : _ ∧ _)
        clear hbl4 hbl5
        go_loopw [52] (fun iv wr => AppL B w12 F a pm n dev N H ws (sealBs q RT) 2 iv wr) (fun iv _ => 2 - (intOf iv).toNat)
        case atStart => exact ⟨0, Nat.zero_le _, rfl, F, pm, Frm.refl HV12.out.st, by simpa using HV12.out.tp, HV12.out.on⟩
        case round =>
          obtain ⟨i, hiD, rfl, F', pm', hfr, htp, hon⟩ := hrel
          have HF := Lib.hid hfr
          have HTP := Lib.hid htp
          have HON := Lib.hid hon
          clear hfr htp hon
          by_cases hlt : i < 2
          · obtain ⟨c, g, hc, hvs, hgb, hgk, hcl⟩ : ∃ c g, (sealBs q RT)[i]? = some c ∧ (#[.slice (some ⟨g8, 0, none⟩) 64 64, .slice (some ⟨g11, 0, none⟩) 64 64] : Array Value)[i]? = some (.slice (some ⟨g, 0, none⟩) 64 64) ∧ wc.heap.size ≤ g ∧ Blk w12 g 5 (cellsOf c) ∧ c.length = 64 := by
              rcases (show i = 0 ∨ i = 1 by omega) with rfl | rfl
              · exact ⟨_, g8, rfl, rfl, HG12.out.1, HK12.out.1, HBL.out.1⟩
              · exact ⟨_, g11, rfl, rfl, HG12.out.2.1, HK12.out.2.1, HBL.out.2⟩
            have hcw : wr.cell? ⟨w11.heap.size, i, none⟩ = some (.slice (some ⟨g, 0, none⟩) 64 64) := by
              have h1 := (HK12.out.2.2.mods HF.out.mods HK12.out.2.2.lt (fun h0 => by have := HFL.out _ h0; have := HG12.out; omega)).cell i
              rw [hvs] at h1
              exact h1
            have hkw : Blk wr g 5 (cellsOf c) := hgk.mods HF.out.mods hgk.lt (fun h0 => by have := HFL.out _ h0; omega)
            have hltI : (i : Int) < 2 := by omega
            have hltD : decide (i < 2) = true := decide_eq_true hlt
            have hltD2 : decide ((i : Int) < 2) = true := decide_eq_true hltI
            have hi1 : IntKind.i64.wrap ((i : Int) + 1) = (i : Int) + 1 := IntWalk.i64_in _ (by omega)
            have hbd : Below wr.heap.size wr wr.drew := below_drewN (Below.refl _ _) 1
            have hVW := HV12.out.next HF.out HTP.out HON.out
            have hv0 := hVW.vol.cell 0
            have hv1 := hVW.vol.cell 1
            simp at hv0 hv1
            have HAP := Lib.hid (St.appended (hVW.below hbd).st HTP.out (Nat.le_trans hVW.bs hbd.size) (by omega) HON.out (by have h2 := HQ.out; have h3 := HM2.out; rw [List.length_append, List.length_take]; omega) (some ⟨g, 0, none⟩) 64 c (hkw.below_ hbd).bat hcl)
            have HBD := Lib.hid hbd
            have HC := Lib.hid (⟨hc, hlt⟩ : _ ∧ _)
            clear hc hvs hgb hgk hkw hlt hVW hbd hcl
            go_wp2_with fail
            refine Ord.region_ord [] [0, 1, 2, 3, 4, 5, 6, 7, 8, 9, 10, 11, 12, 13, 14, 15, 16] (by kernel_rfl) (by kernel_rfl) (by kernel_rfl) (by kernel_rfl) (Ord.ord_all [_, _, _, _, _, _, _, _, _, _, _, _, _, _, _, _, _] rfl (by kernel_rfl) ?_)
            go_wp2_with fail
            refine HAP.out.mono ?_
            rintro e w13 ⟨F2, pm2, hf2, hr2⟩
            have HF2 := Lib.hid (HF.out.trans (hf2.of_below HBD.out))
            have hfz := hf2.fuse
            clear hf2 HAP HBD hv0 hv1 hcw
            rcases hr2 with ⟨rfl, ht2, hon2⟩ | ⟨rfl, ht2, hfu, hoff⟩
            · have HT2 := Lib.hid (⟨ht2, hon2⟩ : _ ∧ _)
              clear ht2 hon2 hfz
              go_wp2_with fail
              refine Ord.nx_end ?_
              go_wp2_with fail
              go_roundw
              case rel =>
                refine ⟨i + 1, HC.out.2, by simp, F2, pm2, HF2.out.more (by omega), ?_, HT2.out.2⟩
                have h1 := HT2.out.1
                rw [List.append_assoc] at h1
                rw [List.take_add_one, HC.out.1]
                exact h1
              case measure =>
                have := HC.out.2
                simp [intOf]
                omega
            · have HT2 := Lib.hid (⟨ht2, hfu, hoff, hfz⟩ : _ ∧ _ ∧ _ ∧ _)
              clear ht2 hfu hoff hfz
              go_wp2_with fail
              refine Ord.nx_end ?_
              go_wp2_with fail
              go_ret
              exact .inr ⟨HS.out, by have := HQ.out; have := HM2.out; omega, F2, pm2, ((HF2.out.of_below HBW12.out).more (show n + i + 1 ≤ n + 3 by have := HC.out.2; omega)), .inr ⟨rfl, fun h0 => HT2.out.2.1 (HF.out.fuse h0), HT2.out.2.2.1⟩⟩
          · obtain rfl : i = 2 := by omega
            have hVW := HV12.out.next HF.out HTP.out HON.out
            have HFLU := Lib.hid (vflush_any hVW (by omega))
            clear hlt hVW
            go_wp2_with fail
            refine HFLU.out.mono ?_
            rintro e w13 ⟨F2, pm2, hf2, hr2⟩
            have HF2 := Lib.hid (HF.out.trans hf2)
            have hfz := hf2.fuse
            clear hf2 HFLU
            rcases hr2 with ⟨rfl, hv2⟩ | ⟨rfl, ht2, hfu, hoff⟩
            · have HV2 := Lib.hid hv2
              clear hv2
              go_wp2_with fail
              go_ret
              refine .inr ⟨HS.out, by have := HQ.out; have := HM2.out; omega, F2, pm2, ((HF2.out.of_below HBW12.out).more (show n + 2 + 1 ≤ n + 3 by omega)), .inl ⟨rfl, ?_⟩⟩
              have h1 := HV2.out
              rw [HL.out.1, HL.out.2, HQ.out.1, List.append_assoc]
              exact h1
            · have HT2 := Lib.hid (⟨ht2, hfu, hoff, hfz⟩ : _ ∧ _ ∧ _ ∧ _)
              clear ht2 hfu hoff hfz
              go_wp2_with fail
              go_ret
              exact .inr ⟨HS.out, by have := HQ.out; have := HM2.out; omega, F2, pm2, ((HF2.out.of_below HBW12.out).more (show n + 2 + 1 ≤ n + 3 by omega)), .inr ⟨rfl, fun h0 => HT2.out.2.1 (HF.out.fuse h0), HT2.out.2.2.1⟩⟩
end Go.Proofs.YtloffgoenaomkaaDoor.Col
