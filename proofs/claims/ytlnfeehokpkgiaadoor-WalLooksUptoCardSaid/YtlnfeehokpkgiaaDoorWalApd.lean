/- The journal's 'Append'. -/
import Derived.Test.YtlnfeehokpkgiaaDoorWalApd1
namespace Go.Proofs.YtlnfeehokpkgiaaDoor.Wal
open Go Go.RowKit Mem Pl Disk Crc _root_.Go.Proofs.YtlnfeehokpkgiaaDoor.Frame
/-- What 'Append' leaves. -/
def AppdP (B : Nat) (w : World) (F : Nat → Prop) (a : Nat) (pm : PM) (n dev N : Nat) (H : List (List UInt8)) (ws : Ws) (g : Nat) (m : WM) (tx : Tx) (e : Ending) (w' : World) : Prop :=
  ∃ (F' : Nat → Prop) (pm' : PM), WFr B w F g a pm (n + 25) dev F' pm' w' ∧
    ((longM tx = true ∧ e = .returned (.int .i64 5) ∧ Disk pm' dev N H ws ∧ pm'.off = false ∧ WalB w' g a dev N m) ∨
     (longM tx = false ∧ fitsM N m.next tx = false ∧ e = .returned (.int .i64 3) ∧ Disk pm' dev N H ws ∧ pm'.off = false ∧ WalB w' g a dev N m) ∨
     (fitsM N m.next tx = true ∧ e = .returned (.int .i64 0) ∧ Disk pm' dev N (setAll (ws ++ apWs m.ep m.gen m.num m.next tx (partsM (encM tx))) H) [] ∧ pm'.off = false ∧ WalB w' g a dev N { m with next := m.next + partsM (encM tx), num := m.num + 1 }) ∨
     (fitsM N m.next tx = true ∧ e = .returned (.int .i64 2) ∧ pm.fuse ≠ none ∧ pm'.off = true ∧ (∃ j, j ≤ partsM (encM tx) ∧ Disk pm' dev N H (ws ++ apWs m.ep m.gen m.num m.next tx j)) ∧ WalB w' g a dev N m))
theorem fitsM_true {N nx : Nat} {tx : Tx} (h : fitsM N nx tx = true) : longM tx = false ∧ partsM (encM tx) ≤ N - nx := by
  unfold fitsM at h
  simp at h
  exact h
theorem apWs_succ (E G num nx : Nat) (tx : Tx) (j : Nat) : apWs E G num nx tx (j + 1) = apWs E G num nx tx j ++ [apW E G num nx tx j] := by
  unfold apWs
  rw [List.range_succ, List.map_append]
  rfl
/-- What the rounds find. -/
structure ApR (w : World) (g a dev N : Nat) (m : WM) (bb wb mb : Nat) (A : Option Addr) (n c : Nat) (tx : Tx) : Prop where
  wal : WalB w g a dev N m
  b : Blk w bb 32 #[.slice A n c]
  p : Blk w wb 37 #[.pointer (some ⟨g, 0, none⟩)]
  k : Blk w mb 3 #[.int .i64 (partsM (encM tx) : Int)]
  bat : BAt w A (encM tx)
section
variable {w w' : World} {F : Nat → Prop} {g a dev N : Nat} {m : WM} {bb wb mb : Nat} {A : Option Addr} {n c : Nat} {tx : Tx}
theorem ApR.of (h : ApR w g a dev N m bb wb mb A n c tx) (hF : ¬ F g ∧ ¬ F bb ∧ ¬ F wb ∧ ¬ F mb) (hh : Held w F A (encM tx)) (hm : Mods w.heap.size F w w') : ApR w' g a dev N m bb wb mb A n c tx :=
  ⟨Blk.mods h.wal hm (Blk.lt h.wal) hF.1, Blk.mods h.b hm h.b.lt hF.2.1, Blk.mods h.p hm h.p.lt hF.2.2.1, Blk.mods h.k hm h.k.lt hF.2.2.2, (hh.mods hm).1⟩
theorem ApR.below (h : ApR w g a dev N m bb wb mb A n c tx) (hb : Below w.heap.size w w') : ApR w' g a dev N m bb wb mb A n c tx :=
  ⟨h.wal.below hb, h.b.below_ hb, h.p.below_ hb, h.k.below_ hb, h.bat.below hb⟩
end
theorem parts_lt {b : List UInt8} {i n : Nat} (hn : b.length = n) (hi : i < partsM b) : 45 * i ≤ n := by
  unfold partsM at hi
  rw [hn] at hi
  omega
def ApdR (B : Nat) (w3 : World) (F : Nat → Prop) (a : Nat) (pm : PM) (n dev N : Nat) (H : List (List UInt8)) (ws : Ws) (m : WM) (tx : Tx) (iv : Value) (wr : World) : Prop :=
  ∃ (i : Nat) (F1 : Nat → Prop) (pm1 : PM), i ≤ partsM (encM tx) ∧ iv = .int .i64 (i : Int) ∧ Frm B w3 F a pm (n + i) dev F1 pm1 wr ∧ Disk pm1 dev N H (ws ++ apWs m.ep m.gen m.num m.next tx i) ∧ pm1.off = false
set_option maxRecDepth 100000 in
set_option maxHeartbeats 8000000 in
theorem append_on {B : Nat} {w : World} {F : Nat → Prop} {a : Nat} {pm : PM} {n dev N : Nat} {H : List (List UInt8)} {ws : Ws} {g : Nat} {m : WM} {A : Option Addr} {nt c : Nat} {tx : Tx} (hst : St B w F a pm n) (hd : Disk pm dev N H ws) (hB : B ≤ w.heap.size) (hn : n ≤ 800000000) (hon : pm.off = false)
    (hw : WalB w g a dev N m) (hg : ¬ F g) (h : RowsAt w A tx) (hl : tx.length = nt) (hnt : nt ≤ 1000000000) (htot : totM tx ≤ 1000000000000000) (hnx : m.next ≤ N) (hep : m.ep < 4294967296) (hgen : m.gen < 4294967296) (hnum : m.num < 4294967296) (ht : Tab w) (hgc : 0 < B) :
    Calls Tryd.prog 16 #[.pointer (some ⟨g, 0, none⟩), .slice A nt c] w (AppdP B w F a pm n dev N H ws g m tx) := by
  have hN4 := (hd.size hst.ok).2
  have hgl : g < w.heap.size := Blk.lt hw
  have hgw : 0 < w.heap.size := Nat.lt_of_lt_of_le hgc hB
  have HNF : Hid (∀ k, w.heap.size ≤ k → ¬ F k) := Lib.hid fun k hk hF => by have := (hst.lt k hF).2; omega
  have hb0 := below_al' (w := w) (.cells #[.pointer (some ⟨g, 0, none⟩)] 37)
  have hk0 := Blk.new w 37 #[.pointer (some ⟨g, 0, none⟩)]
  have HST := Lib.hid hst
  have HD := Lib.hid hd
  have HON := Lib.hid hon
  have HT := Lib.hid ht
  have HG : Hid (¬ F g ∧ g < w.heap.size) := Lib.hid ⟨hg, hgl⟩
  have HBD : Hid (m.ep < 4294967296 ∧ m.gen < 4294967296 ∧ m.num < 4294967296 ∧ m.next ≤ N ∧ N ≤ 1000000) := Lib.hid ⟨hep, hgen, hnum, hnx, by omega⟩
  have HW0 := Lib.hid (hw.below hb0)
  have HR0 := Lib.hid (h.below hb0)
  have HLG := Lib.hid (long_any _ A nt c tx (h.below hb0) hl hnt htot)
  have HFT := Lib.hid (fits_on (hw.below hb0) (c := c) (h.below hb0) hl hnt htot hnx (by omega))
  have HEN := Lib.hid (fun W (hlm : longM tx = false) (hb : Below w.heap.size w W) => encode_any W A nt c tx (h.below hb) hl hlm)
  have HB0 := Lib.hid hb0
  have HK0 := Lib.hid hk0
  have HDW := Lib.hid hw
  clear hst hd hon hw hg h hl ht hb0 hgl hep hgen hnum hnx htot
  cases hlm : longM tx with
  | true =>
    rw [hlm] at HLG
    have HLM := Lib.hid hlm
    clear hlm
    go_enter Tryd.func16, Tryd.ntmps16
    go_wp2_with fail
    refine HLG.out.mono ?_
    rintro e _ ⟨rfl, rfl⟩
    go_wp2_with fail
    go_ret
    exact ⟨F, pm, ((WFr.refl HST.out HG.out.1).more (Nat.le_add_right _ _)).below HB0.out, .inl ⟨HLM.out, rfl, HD.out, HON.out, HW0.out⟩⟩
  | false =>
    rw [hlm] at HLG
    have HLM := Lib.hid hlm
    clear hlm
    cases hft : fitsM N m.next tx with
    | false =>
      rw [hft] at HFT
      have HFM := Lib.hid hft
      clear hft
      have c0 : (w.alloc (.cells #[.pointer (some ⟨g, 0, none⟩)] 37)).cell? ⟨w.heap.size, 0, none⟩ = some (.pointer (some ⟨g, 0, none⟩)) := by rw [hk0.cell]; rfl
      clear hk0
      go_enter Tryd.func16, Tryd.ntmps16
      go_wp2_with fail
      refine HLG.out.mono ?_
      rintro e _ ⟨rfl, rfl⟩
      go_wp2_with fail
      refine HFT.out.mono ?_
      rintro e w1 ⟨rfl, hb1⟩
      have HB1 := Lib.hid hb1
      clear hb1
      go_wp2_with fail
      go_ret
      exact ⟨F, pm, ((WFr.refl HST.out HG.out.1).more (Nat.le_add_right _ _)).below (HB0.out.trans (HB1.out.mono HB0.out.size)), .inr (.inl ⟨HLM.out, HFM.out, rfl, HD.out, HON.out, HW0.out.below HB1.out⟩)⟩
    | true =>
      rw [hft] at HFT
      have HFM := Lib.hid (fitsM_true hft)
      have HPL := Lib.hid (partsM_long HLM.out)
      have HFT0 := Lib.hid hft
      clear hft
      have c0 : (w.alloc (.cells #[.pointer (some ⟨g, 0, none⟩)] 37)).cell? ⟨w.heap.size, 0, none⟩ = some (.pointer (some ⟨g, 0, none⟩)) := by rw [hk0.cell]; rfl
      clear hk0
      go_enter Tryd.func16, Tryd.ntmps16
      go_wp2_with fail
      refine HLG.out.mono ?_
      rintro e _ ⟨rfl, rfl⟩
      go_wp2_with fail
      refine HFT.out.mono ?_
      rintro e w1 ⟨rfl, hb1⟩
      have hb01 := HB0.out.trans (hb1.mono HB0.out.size)
      have HEN1 := Lib.hid (HEN.out w1 HLM.out hb01)
      have HB1 := Lib.hid hb1
      have HB01 := Lib.hid hb01
      clear hb1 hb01 c0
      go_wp2_with fail
      refine HEN1.out.mono ?_
      rintro e w2 ⟨A2, n2, c2, rfl, ho2, hb2⟩
      have HO2 := Lib.hid ho2
      have hb02 := HB01.out.trans (hb2.mono HB01.out.size)
      have HB02 := Lib.hid hb02
      have HB12 := Lib.hid (HB1.out.trans (hb2.mono HB1.out.size))
      clear ho2 hb2 hb02
      have c3 : (w2.alloc (.cells #[.slice A2 n2 c2] 32)).cell? ⟨w2.heap.size, 0, none⟩ = some (.slice A2 n2 c2) := by rw [(Blk.new w2 32 #[.slice A2 n2 c2]).cell]; rfl
      go_wp2_with fail
      have hel : (encM tx).length = n2 := HO2.out.len
      have hn2 : n2 ≤ 2000 := by
        have h1 := encM_len tx
        have h2 := HLM.out
        unfold longM at h2
        simp at h2
        omega
      have HPT := Lib.hid (parts_any (w2.alloc (.cells #[.slice A2 n2 c2] 32)) A2 n2 c2 (encM tx) hel (by omega))
      refine HPT.out.mono ?_
      rintro e _ ⟨rfl, rfl⟩
      obtain ⟨many, hmany⟩ : ∃ k, partsM (encM tx) = k := ⟨_, rfl⟩
      rw [hmany]
      have hb3 := below_al' (w := w2) (.cells #[.slice A2 n2 c2] 32)
      have hk3 := Blk.new w2 32 #[.slice A2 n2 c2]
      have hb4 := below_al' (w := w2.alloc (.cells #[.slice A2 n2 c2] 32)) (.cells #[.int .i64 (many : Int)] 3)
      have hk4 := Blk.new_at (w2.alloc (.cells #[.slice A2 n2 c2] 32)) (w2.heap.size + 1) (by simp) 3 #[.int .i64 (many : Int)]
      have hsz : w.heap.size ≤ w2.heap.size := HB02.out.size
      have hb24 := hb3.trans (hb4.mono hb3.size)
      have HB3 := Lib.hid (HB02.out.trans (hb24.mono hsz))
      have HFF : Hid (¬ F g ∧ ¬ F w2.heap.size ∧ ¬ F w.heap.size ∧ ¬ F (w2.heap.size + 1)) := Lib.hid ⟨HG.out.1, HNF.out _ hsz, HNF.out _ (Nat.le_refl _), HNF.out _ (by omega)⟩
      have HAP : Hid (ApR ((w2.alloc (.cells #[.slice A2 n2 c2] 32)).alloc (.cells #[.int .i64 (many : Int)] 3)) g a dev N m w2.heap.size w.heap.size (w2.heap.size + 1) A2 n2 c2 tx) := Lib.hid
        ⟨HW0.out.below (HB12.out.trans (hb24.mono HB12.out.size)), hk3.below_ hb4, HK0.out.below_ (HB12.out.trans (hb24.mono HB12.out.size)), by rw [hmany]; exact hk4, (HO2.out.below hb24).bat⟩
      have HHE : Hid (Held ((w2.alloc (.cells #[.slice A2 n2 c2] 32)).alloc (.cells #[.int .i64 (many : Int)] 3)) F A2 (encM tx)) := Lib.hid
        ((Held.of_own HO2.out fun k hk => by
          have := HST.out.lt k hk
          have := HB01.out.size
          omega).below hb24)
      have hcap : n2 ≤ c2 := HO2.out.cap_le.1
      have HEL := Lib.hid hel
      have HMY := Lib.hid hmany
      have c4 : ((w2.alloc (.cells #[.slice A2 n2 c2] 32)).alloc (.cells #[.int .i64 (many : Int)] 3)).cell? ⟨w2.heap.size + 1, 0, none⟩ = some (.int .i64 (many : Int)) := by rw [hk4.cell]; rfl
      clear hel hmany hb3 hk3 hb4 hk4 hb24 c3 HPT HEN HEN1 HFT HLG hsz
      go_wp2_with fail
      clear c4
      generalize ((w2.alloc (.cells #[.slice A2 n2 c2] 32)).alloc (.cells #[.int .i64 (many : Int)] 3)) = w3 at *
      generalize w2.heap.size + 1 = mb at *
      generalize w2.heap.size = bb at *
      go_loopw [25] (fun iv wr => ApdR B w3 F a pm n dev N H ws m tx iv wr) (fun iv _ => many - (intOf iv).toNat)
      case atStart => exact ⟨0, F, pm, by omega, rfl, (Frm.refl (HST.out.below HB3.out)), by simpa [apWs] using HD.out, HON.out⟩
      case round =>
        obtain ⟨i, F1, pm1, hi, rfl, hfr, hd1, hon1⟩ := hrel
        have hap := HAP.out.of HFF.out HHE.out hfr.mods
        rw [HMY.out] at hi
        have HFR := Lib.hid hfr
        have HD1 := Lib.hid hd1
        have HON1 := Lib.hid hon1
        have hszr : w.heap.size ≤ wr.heap.size := Nat.le_trans HB3.out.size hfr.mods.size
        have hBr : B ≤ wr.heap.size := Nat.le_trans hB hszr
        have HTR : Hid (Tab wr) := Lib.hid (tab_frm (HT.out.below HB3.out hgw) hgc (Nat.le_trans hB HB3.out.size) (HST.out.below HB3.out) hfr)
        have HGR : Hid (0 < wr.heap.size) := Lib.hid (Nat.lt_of_lt_of_le hgw hszr)
        have kp : wr.cell? ⟨w.heap.size, 0, none⟩ = some (.pointer (some ⟨g, 0, none⟩)) := by rw [hap.p.cell]; rfl
        have kb : wr.cell? ⟨bb, 0, none⟩ = some (.slice A2 n2 c2) := by rw [hap.b.cell]; rfl
        have kk : wr.cell? ⟨mb, 0, none⟩ = some (.int .i64 (many : Int)) := by rw [hap.k.cell, HMY.out]; rfl
        have HP := Lib.hid hap
        obtain ⟨d0, d1, d2, d3, d4, d5, d6⟩ := hap.wal.cells
        clear hap hfr hd1 hon1
        by_cases hlt : i < many
        · have hltI : (i : Int) < (many : Int) := by omega
          obtain ⟨p, hp⟩ : ∃ p, m.next + i = p := ⟨_, rfl⟩
          have hpN : p < N := by have := HFM.out.2; rw [HMY.out] at this; have := HBD.out; omega
          have hwp : IntKind.i64.wrap ((m.next : Int) + (i : Int)) = (p : Int) := by rw [show (m.next : Int) + (i : Int) = (p : Int) by omega]; exact IntWalk.i64_in _ (by have := HBD.out; omega)
          have hm24 : many ≤ 24 := by have := HPL.out.2; rw [HMY.out] at this; exact this
          have bdr := below_drewN (Below.refl wr.heap.size wr) 1
          have HCL := Lib.hid (part_make (w := wr.drew) (bb := bb) (wb := w.heap.size) (mb := mb) (i := i) (many := many) (n := n2) (cap := c2) (HP.out.below bdr).wal kb kp kk (HP.out.below bdr).bat HEL.out hcap (parts_lt HEL.out (by rw [HMY.out]; exact hlt)) hm24 hlt hn2 (by have := HBD.out; omega) (by have := HBD.out; omega) (by have := HBD.out; omega) (HTR.out.below bdr HGR.out) HGR.out)
          have HPP := Lib.hid hp
          clear hp d2 d3 d4 d6 bdr
          go_wp2_with fail
          refine Ord.region_ordM [16] [13] [0, 1, 2, 3, 4, 5, 6, 7, 8, 9, 10, 11, 12, 14, 15, 13, 16, 17, 18] (by kernel_rfl) (by kernel_rfl) (by kernel_rfl) (by kernel_rfl) (Ord.ord_run [0, 1, 2, 3, 4, 5, 6, 7, 8, 9, 10, 11, 12, 14, 15] [_, _, _, _, _, _, _, _, _, _, _, _, _, _, _] rfl (by kernel_rfl) ?_)
          go_wp2_with fail
          refine Ord.nx_ord (Ord.ord_pure (.int .i64 (p : Int)) rfl (by kernel_rfl) (by rfl) (fun w' => by first | (go_simp; done) | (go_simp; exact hwp)) ?_)
          simp only [Act.put, List.setIfInBounds_toArray]
          refine Ord.ord_oneM rfl (by kernel_rfl) ?_
          go_wp2_with fail
          refine HCL.out.mono ?_
          rintro e w5 ⟨A5, c5, rfl, hbt5, hb5⟩
          have HB5 := Lib.hid hb5
          have hb5r : Below wr.heap.size wr w5 := (below_drewN (Below.refl wr.heap.size wr) 1).trans hb5
          have HB5R := Lib.hid hb5r
          have HWR := Lib.hid (St.wrote (HFR.out.st.below hb5r) HD1.out (Nat.le_trans hBr hb5r.size) (by omega) HON1.out p hpN A5 c5 _ hbt5 (partB_len _ _ _ _ _ (chunk_len _ _)))
          clear hb5 hb5r hbt5 HCL
          go_wp2_with fail
          refine Ord.nx_and HB5.out (Ord.ord_all [_, _] rfl (by kernel_rfl) ?_)
          go_wp2_with fail
          refine HWR.out.mono ?_
          rintro e w6 ⟨F6, pm6, hf6, ⟨rfl, hd6, hon6⟩ | ⟨rfl, hd6, hfu6, hoff6⟩⟩
          · have HF6 := Lib.hid (HFR.out.trans (hf6.of_below HB5R.out))
            have HD6 := Lib.hid (⟨hd6, hon6⟩ : _ ∧ _)
            clear hf6 hd6 hon6 HWR d0 d1 d5 kp kb kk
            go_wp2_with fail
            refine Ord.nx_end ?_
            go_wp2_with fail
            go_roundw
            case rel =>
              refine ⟨i + 1, F6, pm6, by rw [HMY.out]; omega, by simp, HF6.out, ?_, HD6.out.2⟩
              have h1 := HD6.out.1
              rw [apWs_succ, ← List.append_assoc]
              unfold apW
              rw [HMY.out, HPP.out]
              exact h1
            case measure => simp [intOf]; omega
          · have HF6 := Lib.hid (HFR.out.trans (hf6.of_below HB5R.out))
            have HD6 := Lib.hid (⟨hd6, hoff6, fun e => hfu6 (HFR.out.fuse e)⟩ : _ ∧ _ ∧ pm.fuse ≠ none)
            clear hf6 hd6 hfu6 hoff6 HWR d0 d1 d5 kp kb kk
            go_wp2_with fail
            refine Ord.nx_end ?_
            go_wp2_with fail
            go_ret
            refine ⟨F6, pm6, (((HF6.out.of_below HB3.out).more (by omega)).wal HG.out.1 HG.out.2), .inr (.inr (.inr ⟨HFT0.out, rfl, HD6.out.2.2, HD6.out.2.1, ⟨i, by rw [HMY.out]; omega, HD6.out.1⟩, (HAP.out.of HFF.out HHE.out HF6.out.mods).wal⟩))⟩
        · obtain rfl : many = i := by omega
          have bdr := below_drewN (Below.refl wr.heap.size wr) 1
          have hm24 : many ≤ 24 := by have := HPL.out.2; rw [HMY.out] at this; exact this
          have HFL := Lib.hid (St.flushed (HFR.out.st.below bdr) HD1.out (show B ≤ wr.drew.heap.size from hBr) (by omega) HON1.out)
          have HBDR := Lib.hid bdr
          clear d2 d3 d4 d5 d6 bdr kb kk
          go_wp2_with fail
          refine Ord.region_ord [] [0, 1, 2, 3, 4, 5, 6, 7, 8, 9] (by kernel_rfl) (by kernel_rfl) (by kernel_rfl) (by kernel_rfl) (Ord.ord_all [_, _, _, _, _, _, _, _, _, _] rfl (by kernel_rfl) ?_)
          go_wp2_with fail
          refine HFL.out.mono ?_
          rintro e w7 ⟨F7, pm7, hf7, ⟨rfl, hd7, hon7⟩ | ⟨rfl, hd7, hfu7, hoff7⟩⟩
          · have hfr7 := HFR.out.trans (hf7.of_below HBDR.out)
            have HF7 := Lib.hid hfr7
            have HD7 := Lib.hid (⟨hd7, hon7⟩ : _ ∧ _)
            have hap7 := HAP.out.of HFF.out HHE.out hfr7.mods
            have kp7 : w7.cell? ⟨w.heap.size, 0, none⟩ = some (.pointer (some ⟨g, 0, none⟩)) := by rw [hap7.p.cell]; rfl
            have kk7 : w7.cell? ⟨mb, 0, none⟩ = some (.int .i64 (many : Int)) := by rw [hap7.k.cell, HMY.out]; rfl
            have hbw : Blk w7 g 91 (walCells a dev N m).toArray := hap7.wal
            obtain ⟨p2, hp2⟩ : ∃ p, m.next + many = p := ⟨_, rfl⟩
            obtain ⟨u2, hu2⟩ : ∃ p, m.num + 1 = p := ⟨_, rfl⟩
            have hwp2 : IntKind.i64.wrap ((m.next : Int) + (many : Int)) = (p2 : Int) := by rw [show (m.next : Int) + (many : Int) = (p2 : Int) by omega]; exact IntWalk.i64_in _ (by have := HBD.out; omega)
            have hwu2 : IntKind.u64.wrap ((m.num : Int) + 1) = (u2 : Int) := by rw [show (m.num : Int) + 1 = (u2 : Int) by omega, IntKind.wrap_u64]; have := HBD.out; omega
            have s1 := hbw.set_ 5 (.int .i64 (p2 : Int))
            have s2 := s1.set_ 6 (.int .u64 (u2 : Int))
            have HS2 := Lib.hid s2
            have f5 := hbw.frozen 5
            have f6 := hbw.frozen 6
            have z5 : w7.cell? ⟨g, 5, none⟩ = some (.int .i64 (m.next : Int)) := by rw [hbw.cell]; rfl
            have z6 : w7.cell? ⟨g, 6, none⟩ = some (.int .u64 (m.num : Int)) := by rw [hbw.cell]; rfl
            have hgb : w.heap.size ≠ g := by have := HG.out.2; omega
            have hgm : mb ≠ g := fun e => by
              have h1 := hap7.k
              have h2 : Blk w7 g _ _ := e ▸ h1
              have h3 : w7.heap[g]? = _ := h2
              have h4 : w7.heap[g]? = _ := hbw
              rw [h3] at h4
              injection h4 with h4
              injection h4 with _ h5
              exact absurd h5 (by decide)
            have HFW := Lib.hid ((((((HF7.out.of_below HB3.out).more (show n + many + 1 ≤ n + 25 by omega)).wal HG.out.1 HG.out.2).below (below_drewN (Below.refl w7.heap.size w7) 1)).cell 5 (.int .i64 (p2 : Int))).cell 6 (.int .u64 (u2 : Int)))
            have HPU := Lib.hid (⟨hp2, hu2⟩ : _ ∧ _)
            clear hf7 hd7 hon7 HFL hfr7 hap7 s1 s2 d0 d1 kp hbw hp2 hu2
            go_wp2_with fail
            refine Ord.nx_end ?_
            go_wp2_with fail
            refine Ord.region_ordM [] [5] [0, 1, 2, 3, 4, 5, 6, 7, 8] (by kernel_rfl) (by kernel_rfl) (by kernel_rfl) (by kernel_rfl) (Ord.ord_run [0, 1, 2, 3, 4] [_, _, _, _, _] rfl (by kernel_rfl) ?_)
            go_wp2_with fail
            refine Ord.nx_ord (Ord.ord_pure (.int .i64 (p2 : Int)) rfl (by kernel_rfl) (by rfl) (fun w' => by first | (go_simp; done) | (go_simp; exact hwp2)) ?_)
            simp only [Act.put, List.setIfInBounds_toArray]
            refine Ord.ord_all [_, _, _] rfl (by kernel_rfl) ?_
            go_wp2_with fail
            refine Ord.nx_end ?_
            go_wp2_with fail
            go_ret
            have e4 : (walCells a dev N { m with next := m.next + many, num := m.num + 1 }).toArray = ((walCells a dev N m).toArray.setIfInBounds 5 (.int .i64 (p2 : Int))).setIfInBounds 6 (.int .u64 (u2 : Int)) := by
              rw [HPU.out.1, HPU.out.2]
              simp [walCells]
            refine ⟨F7, pm7, HFW.out, .inr (.inr (.inl ⟨HFT0.out, rfl, ?_, HD7.out.2, ?_⟩))⟩
            · rw [HMY.out]
              exact HD7.out.1
            · rw [HMY.out]
              show Blk _ _ _ _
              rw [e4]
              exact HS2.out
          · have HF7 := Lib.hid (HFR.out.trans (hf7.of_below HBDR.out))
            have HD7 := Lib.hid (⟨hd7, hoff7, fun e => hfu7 (HFR.out.fuse e)⟩ : _ ∧ _ ∧ pm.fuse ≠ none)
            clear hf7 hd7 hfu7 hoff7 HFL d0 d1 kp
            go_wp2_with fail
            refine Ord.nx_end ?_
            go_wp2_with fail
            go_ret
            exact ⟨F7, pm7, (((HF7.out.of_below HB3.out).more (by omega)).wal HG.out.1 HG.out.2), .inr (.inr (.inr ⟨HFT0.out, rfl, HD7.out.2.2, HD7.out.2.1, ⟨many, by rw [HMY.out]; omega, HD7.out.1⟩, (HAP.out.of HFF.out HHE.out HF7.out.mods).wal⟩))⟩
end Go.Proofs.YtlnfeehokpkgiaaDoor.Wal
