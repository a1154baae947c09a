/- Layer 15 (coldvol): Room. -/
import Derived.Test.YtloffgoenaomkaaDoorCol4
namespace Go.Proofs.YtloffgoenaomkaaDoor.Col
open Go Go.RowKit Mem Pl Disk Crc _root_.Go.Proofs.YtloffgoenaomkaaDoor.Frame Hash
/-- How many blocks are left. -/
def roomM (N : Nat) (T : List (List UInt8)) : Nat := if (rootM T).isSome then 0 else N - T.length - 2
theorem rootM_len {T : List (List UInt8)} : ((rootM T).getD z32).length = 32 := by
  unfold rootM
  split
  · rfl
  · split
    · rename_i b _ h _
      unfold readM at h
      split at h
      · injection h with h
        rename_i h60
        have h5 := h60.2.2
        have h3 : 63 < (T.getD (T.length - 2) []).length := by
          rcases Nat.lt_or_ge 63 (T.getD (T.length - 2) []).length with h4 | h4
          · exact h4
          · rw [List.getD_eq_getElem?_getD, List.getElem?_eq_none h4] at h5
            exact absurd h5 (by decide)
        show (b.take 32).length = 32
        rw [← h, List.length_take, List.length_take, List.length_drop]
        omega
      · cases h
    · rfl
set_option maxRecDepth 100000 in
set_option maxHeartbeats 4000000 in
theorem vroom_any {B : Nat} {w : World} {F : Nat → Prop} {a : Nat} {pm : PM} {n v dev N : Nat} {H ws : List (List UInt8)} (h : VS B w F a pm n v dev N H ws) (hn : n ≤ 1000000000) :
    Calls Tryd.prog 13 #[.pointer (some ⟨v, 0, none⟩)] w fun e w' => e = .returned (.int .i64 (roomM N (H ++ ws) : Int)) ∧ Below w.heap.size w w' := by
  have HV := Lib.hid h
  have HR := Lib.hid (vroot_any h hn)
  have hal := run_allocHash
  clear h
  go_enter Tryd.func13, Tryd.ntmps13
  go_wp2_with fail
  refine HR.out.mono ?_
  rintro e w1 ⟨rfl, hb1⟩
  have hkz := Blk.new w1 44 (cellsOf z32)
  have HKZ := Lib.hid hkz
  have HBZ := Lib.hid (hb1.alloc hb1.size (.cells (cellsOf z32) 44))
  obtain ⟨r, hr⟩ : ∃ r, (rootM (H ++ ws)).getD z32 = r := ⟨_, rfl⟩
  have hrl : r.length = 32 := by rw [← hr]; exact rootM_len
  have hsz := hb1.size
  rw [hr]
  obtain ⟨s, hs⟩ : ∃ s, (rootM (H ++ ws)).isSome = s := ⟨_, rfl⟩
  have HS := Lib.hid hs
  rw [hs]
  clear hr hs hb1 hkz HR
  cases s with
  | true =>
    have hR : roomM N (H ++ ws) = 0 := by unfold roomM; rw [HS.out]; rfl
    have HR0 := Lib.hid hR
    clear hR
    go_wp2_with (first
      | (refine wpList_store_hash rfl (.tmp 3) (.tmp 8) rfl w1.heap.size _ z32 r rfl rfl HKZ.out rfl hrl ?_
         intro w2 hk2 hg2 hz2))
    have hb2 := HBZ.out.grown hg2 HBZ.out.size (fun k hk => by injection hk with hk; omega)
    have HB2 := Lib.hid hb2
    clear hk2 hg2 hz2 hb2 HBZ HKZ hal
    go_ret
    exact ⟨by rw [HR0.out]; rfl, HB2.out⟩
  | false =>
    have hR : roomM N (H ++ ws) = N - (H.length + ws.length) - 2 := by unfold roomM; rw [HS.out, List.length_append]; rfl
    have HRR := Lib.hid hR
    clear hR
    go_wp2_with (first
      | (refine wpList_store_hash rfl (.tmp 3) (.tmp 8) rfl w1.heap.size _ z32 r rfl rfl HKZ.out rfl hrl ?_
         intro w2 hk2 hg2 hz2))
    have hb2 := HBZ.out.grown hg2 HBZ.out.size (fun k hk => by injection hk with hk; omega)
    have HB2 := Lib.hid hb2
    clear hk2 hg2 hz2 hb2 HBZ HKZ hal
    have hv2 := HV.out.below HB2.out
    have hv0 := hv2.vol.cell 0
    have hv1 := hv2.vol.cell 1
    simp at hv0 hv1
    have HV2 := Lib.hid hv2
    have hrm := hv2.room
    have HRM := Lib.hid hrm
    have HMO := Lib.hid (most_any (w := w2.drew) (hv2.st.below (below_drewN (Below.refl _ _) 1)).at_ hv2.st.ok (j := dev - pm.disks.length) (dev := dev) (by omega) hrm.2.2.1 (by omega))
    clear hrm hv2 HS
    refine Ord.region_ord [4] [0, 1, 2, 3, 5, 6, 7, 8, 4, 9, 10, 11, 12, 13] (by kernel_rfl) (by kernel_rfl) (by kernel_rfl) (by kernel_rfl) (Ord.ord_run [0, 1, 2, 3, 5, 6, 7, 8] [_, _, _, _, _, _, _, _] rfl (by kernel_rfl) ?_)
    go_wp2_with fail
    refine Ord.nx_ord (Ord.ord_one rfl ?_)
    go_wp2_with fail
    refine HMO.out.mono ?_
    rintro e w3 ⟨rfl, hb3⟩
    have hb3' : Below w2.heap.size w2 w3 := (show Below w2.heap.size w2 w2.drew from below_drewN (Below.refl _ _) 1).trans hb3
    have hv3 := HV2.out.below hb3'
    have HB3 := Lib.hid (HB2.out.trans (hb3'.mono HB2.out.size))
    have HSZ := Lib.hid (size_any hv3.st.at_ hv3.st.ok (hv3.st.low hn) hv3.tp)
    have HBX := Lib.hid hb3
    clear hb3 hb3' hv3 HV2 HB2 HMO hv0 hv1
    go_wp2_with fail
    refine Ord.nx_and HBX.out (Ord.ord_all [_, _, _, _, _] rfl (by kernel_rfl) ?_)
    clear HBX
    go_wp2_with fail
    refine HSZ.out.mono ?_
    rintro e w4 ⟨rfl, hb4⟩
    have HB4 := Lib.hid (HB3.out.trans (hb4.mono HB3.out.size))
    obtain ⟨q, hq⟩ : ∃ q, H.length + ws.length = q := ⟨_, rfl⟩
    obtain ⟨m, hm⟩ : ∃ m, N = q + m := ⟨N - q, by have := HRM.out; omega⟩
    have hm4 : q + m ≤ 4096 := by have := HRM.out; omega
    have w1 : IntKind.i64.wrap ((N : Int) - (q : Int)) = (m : Int) := by rw [hm, show ((q + m : Nat) : Int) - (q : Int) = (m : Int) by omega]; exact IntWalk.i64_in _ (by omega)
    have w2 : IntKind.i64.wrap ((m : Int) - 2) = (m : Int) - 2 := IntWalk.i64_in _ (by omega)
    have hres : roomM N (H ++ ws) = m - 2 := by rw [HRR.out, hq]; omega
    rw [hq]
    clear hq hm hm4 HRM HSZ hb4 HB3 HRR
    by_cases h2 : m ≤ 2
    · have hx : (m : Int) ≤ 2 := by omega
      go_wp2_with fail
      refine Ord.nx_end ?_
      go_wp2_with fail
      go_ret
      exact ⟨by rw [hres]; simp; omega, HB4.out⟩
    · have hx : ¬ (m : Int) ≤ 2 := by omega
      go_wp2_with fail
      refine Ord.nx_end ?_
      go_wp2_with fail
      go_ret
      exact ⟨by rw [hres]; simp; omega, HB4.out⟩
end Go.Proofs.YtloffgoenaomkaaDoor.Col
