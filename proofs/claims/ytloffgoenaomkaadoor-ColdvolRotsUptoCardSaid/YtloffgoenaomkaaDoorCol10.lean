/- Layer 15 (coldvol): Append. -/
import Derived.Test.YtloffgoenaomkaaDoorCol9
import Derived.Test.YtloffgoenaomkaaDoorFold14
namespace Go.Proofs.YtloffgoenaomkaaDoor.Col
open Go Go.RowKit Mem Pl Disk Crc _root_.Go.Proofs.YtloffgoenaomkaaDoor.Frame Hash
def AppR (w7 wc : World) (q : Nat) (id b : List UInt8) (D : Nat) (rv iv : Value) (wr : World) : Prop :=
  ∃ i, i ≤ D ∧ iv = .int .i64 ((56 * i : Nat) : Int) ∧ Rows wr w7.heap.size wc.heap.size (frontM q id b i) rv ∧ Below w7.heap.size w7 wr
def AppL (B : Nat) (w10 : World) (F : Nat → Prop) (a : Nat) (pm : PM) (n dev N : Nat) (H ws Z : List (List UInt8)) (L : Nat) (iv : Value) (wr : World) : Prop :=
  ∃ i, i ≤ L ∧ iv = .int .i64 (i : Int) ∧ ∃ (F' : Nat → Prop) (pm' : PM), Frm B w10 F a pm (n + i) dev F' pm' wr ∧ TapeP pm' dev N H (ws ++ Z.take i) ∧ pm'.off = false
theorem mods_row {w w' : World} {r : Nat} (hg : w.grownBy w' (some r)) : Mods w.heap.size (fun g => g = r) w w' :=
  (Mods.refl w.heap.size (fun g => g = r) w).grown hg (Nat.le_refl _) fun g e => by injection e with e; exact .inl e.symm
theorem St.off_ {B : Nat} {w w' : World} {F G : Nat → Prop} {c m : Nat} {q : PM} (hq : St B w G c q m) (hm : Mods w.heap.size F w w') (hd : ∀ g, G g → ¬ F g) : St B w' G c q m :=
  ⟨hq.at_.mods hm fun g hg hG => ⟨hg, hd g hG⟩, hq.ok, fun g hg => ⟨(hq.lt g hg).1, Nat.lt_of_lt_of_le (hq.lt g hg).2 hm.size⟩, hq.steps, hq.waits⟩
theorem Frm.row {B : Nat} {w w1 w' : World} {F F' : Nat → Prop} {a n dev r : Nat} {pm pm' : PM} (h : Frm B w F a pm n dev F' pm' w1) (hg : w1.grownBy w' (some r)) (hr : w.heap.size ≤ r) (hF : ¬ F' r) : Frm B w F a pm n dev F' pm' w' :=
  ⟨h.grow, h.mods.grown hg h.mods.size fun g e => by injection e with e; subst e; exact .inr hr, St.off_ h.st (mods_row hg) fun g hg e => hF (e ▸ hg), h.els, h.fuse⟩
attribute [local go_sem] Rec.S8_size
set_option maxRecDepth 100000 in
set_option maxHeartbeats 8000000 in
theorem vappend_any {B : Nat} {w : World} {F : Nat → Prop} {a : Nat} {pm : PM} {n v dev N : Nat} {H ws : List (List UInt8)} (h : VS B w F a pm n v dev N H ws) (hn : n ≤ 900000000) (id : List UInt8) (hid : id.length ≤ 140737488355328)
    (A : Option Addr) (m cap : Nat) (b : List UInt8) (hb : BAt w A b) (hm : b.length = m) (hcap : m ≤ cap) (hm2 : m ≤ 9223372036854775807) (hnil : A = none → cap = 0) :
    Calls Tryd.prog 11 #[.pointer (some ⟨v, 0, none⟩), .string (Rec.S8 id), .slice A m cap] w (AppP B w F a pm n v dev N H ws id b) := by
  have HV := Lib.hid h
  have hb1 := below_al' (w := w) (.cells #[.int .i64 0, .int .i64 0, .int .i64 0, .bool false] 35)
  have HK1 := Lib.hid (Blk.new w 35 #[.int .i64 0, .int .i64 0, .int .i64 0, .bool false])
  have HB1 := Lib.hid hb1
  have HV1 := Lib.hid (h.below hb1)
  have HBA := Lib.hid (hb.below hb1)
  have HM := Lib.hid hm
  have HID := Lib.hid hid
  have hn2 : n ≤ 1000000000 := by omega
  have HRO := Lib.hid (vroom_any (h.below hb1) hn2)
  have HNA := Lib.hid (fun w : World => Rec.name_any id hid w)
  have HMAY : Hid (mayM N (H ++ ws) id b = if Rec.nameM id = false then 1 else if 512 < m then 5 else if roomM N (H ++ ws) < 2 + dataN m then 3 else 0) := Lib.hid (by rw [← hm]; rfl)
  have hlt1 : w.heap.size < (w.alloc (.cells #[.int .i64 0, .int .i64 0, .int .i64 0, .bool false] 35)).heap.size := by simp
  clear h hb1 hb hm hid
  go_enter Tryd.func11, Tryd.ntmps11
  go_wp2_with fail
  refine (HNA.out _).mono ?_
  rintro e _ ⟨rfl, rfl⟩
  cases hnm : Rec.nameM id with
  | false =>
    have HE : Hid (mayM N (H ++ ws) id b = 1) := Lib.hid (by rw [HMAY.out, if_pos hnm])
    clear HMAY hnm HRO
    go_wp2_with
      (refine wpList_store_all rfl 35 (.tmp 6) (.tmp 20) rfl w.heap.size 35 [.int .i64 0, .int .i64 0, .int .i64 0, .bool false] [.int .i64 0, .int .i64 0, .int .i64 0, .bool false] rfl rfl HK1.out rfl (by kernel_rfl) pc0_one ?_
       intro w9 hb9 hg9 hz9)
    have hld := load_pc hb9
    have HB9 := Lib.hid (HB1.out.grown hg9 HB1.out.size (fun k hk => by injection hk with hk; omega))
    refine bodyPost_ret (v := .tuple #[.agg #[.int .i64 0, .int .i64 0, .int .i64 0, .bool false], .int .i64 1]) ?_ rfl (.inl ⟨1, HE.out, by decide, rfl, HB9.out⟩)
    simp [results, Tryd.results11, asAddr, hld]
  | true =>
    by_cases h512 : 512 < m
    · have HE : Hid (mayM N (H ++ ws) id b = 5) := Lib.hid (by rw [HMAY.out, if_neg (by rw [hnm]; decide), if_pos h512])
      have h5i : (512 : Int) < (m : Int) := by omega
      clear HMAY hnm HRO h512
      go_wp2_with
        (refine wpList_store_all rfl 35 (.tmp 6) (.tmp 25) rfl w.heap.size 35 [.int .i64 0, .int .i64 0, .int .i64 0, .bool false] [.int .i64 0, .int .i64 0, .int .i64 0, .bool false] rfl rfl HK1.out rfl (by kernel_rfl) pc0_one ?_
         intro w9 hb9 hg9 hz9)
      have hld := load_pc hb9
      have HB9 := Lib.hid (HB1.out.grown hg9 HB1.out.size (fun k hk => by injection hk with hk; omega))
      refine bodyPost_ret (v := .tuple #[.agg #[.int .i64 0, .int .i64 0, .int .i64 0, .bool false], .int .i64 5]) ?_ rfl (.inl ⟨5, HE.out, by decide, rfl, HB9.out⟩)
      simp [results, Tryd.results11, asAddr, hld]
    · have h5i : ¬ (512 : Int) < (m : Int) := by omega
      have h5d : decide (512 < m) = false := decide_eq_false h512
      have h5d2 : decide ((512 : Int) < (m : Int)) = false := decide_eq_false h5i
      have HIL := Lib.hid (name_len hnm)
      have HM5 := Lib.hid (⟨hnm, h512⟩ : _ ∧ _)
      have hbz := blocksZ_nat (n := m) (by omega)
      obtain ⟨D, hD⟩ : ∃ D, dataN m = D := ⟨_, rfl⟩
      have hD10 : D ≤ 10 := by rw [← hD]; unfold dataN; omega
      have HDM : Hid (m ≤ 56 * D ∧ ∀ i, i < D → 56 * i < m) := Lib.hid (by rw [← hD]; unfold dataN; exact ⟨by omega, fun i hi => by omega⟩)
      rw [hD] at hbz
      obtain ⟨t2, ht2⟩ : ∃ t, 2 + D = t := ⟨_, rfl⟩
      rw [ht2] at hbz
      have HBL := Lib.hid (fun w : World => by have := blocks_any w (m : Int); rw [hbz] at this; exact this : ∀ w : World, Calls Tryd.prog 18 #[.int .i64 (m : Int)] w fun e w' => e = .returned (.int .i64 (t2 : Int)) ∧ w = w')
      obtain ⟨r, hr⟩ : ∃ r, roomM N (H ++ ws) = r := ⟨_, rfl⟩
      rw [hr] at HRO
      have HR := Lib.hid hr
      have HDD := Lib.hid (⟨hD, ht2⟩ : _ ∧ _)
      have HM6 := Lib.hid h512
      clear hbz hr hD ht2 h512 hnm
      go_wp2_with fail
      refine HRO.out.mono ?_
      rintro e w2 ⟨rfl, hb2⟩
      have HV2 := Lib.hid (HV1.out.below hb2)
      have HB2 := Lib.hid (HB1.out.trans (hb2.mono HB1.out.size))
      have HK2 := Lib.hid (HK1.out.below_ hb2)
      have HBA2 := Lib.hid (HBA.out.below hb2)
      have hlt2 : w.heap.size < w2.heap.size := HK2.out.lt
      clear hb2 HRO HV1 HB1 HK1 HBA hlt1
      go_wp2_with fail
      refine (HBL.out _).mono ?_
      rintro e _ ⟨rfl, rfl⟩
      by_cases hrt : r < t2
      · have HE : Hid (mayM N (H ++ ws) id b = 3) := Lib.hid (by rw [HMAY.out, if_neg (by rw [HM5.out.1]; decide), if_neg HM6.out, HR.out, HDD.out.1, HDD.out.2, if_pos hrt])
        have hri : (r : Int) < (t2 : Int) := by omega
        clear HMAY hrt
        go_wp2_with
          (refine wpList_store_all rfl 35 (.tmp 6) (.tmp 33) rfl w.heap.size 35 [.int .i64 0, .int .i64 0, .int .i64 0, .bool false] [.int .i64 0, .int .i64 0, .int .i64 0, .bool false] rfl rfl HK2.out rfl (by kernel_rfl) pc0_one ?_
           intro w9 hb9 hg9 hz9)
        have hld := load_pc hb9
        have HB9 := Lib.hid (HB2.out.grown hg9 HB2.out.size (fun k hk => by injection hk with hk; omega))
        refine bodyPost_ret (v := .tuple #[.agg #[.int .i64 0, .int .i64 0, .int .i64 0, .bool false], .int .i64 3]) ?_ rfl (.inl ⟨3, HE.out, by decide, rfl, HB9.out⟩)
        simp [results, Tryd.results11, asAddr, hld]
      · have HE : Hid (mayM N (H ++ ws) id b = 0) := Lib.hid (by rw [HMAY.out, if_neg (by rw [HM5.out.1]; decide), if_neg HM6.out, HR.out, HDD.out.1, HDD.out.2, if_neg hrt])
        have hri : ¬ (r : Int) < (t2 : Int) := by omega
        have hrd : decide (r < t2) = false := decide_eq_false hrt
        have hrd2 : decide ((r : Int) < (t2 : Int)) = false := decide_eq_false hri
        have HRT := Lib.hid hrt
        clear HMAY hrt
        go_upto_region 7 with fail
        have hv0 := HV2.out.vol.cell 0
        have hv1 := HV2.out.vol.cell 1
        simp at hv0 hv1
        obtain ⟨q, hq⟩ : ∃ q, H.length + ws.length = q := ⟨_, rfl⟩
        have HQ := Lib.hid hq
        have HSZ := Lib.hid (fun w' hb => size_any (w := w') (HV2.out.below hb).st.at_ HV2.out.st.ok (HV2.out.st.low hn2) HV2.out.tp : ∀ w', Below w2.heap.size w2 w' → _)
        rw [hq] at HSZ
        have hbd : Below w2.heap.size w2 w2.drew := below_drewN (Below.refl _ _) 1
        have HBD := Lib.hid hbd
        clear hbd hq
        go_cut [8] from 34 to 47 (fun xv wc => ∃ g, xv = .pointer (some ⟨g, 0, none⟩) ∧ w2.heap.size ≤ g ∧ Blk wc g 35 [.int .i64 (dev : Int), .int .i64 (q : Int), .int .i64 (t2 : Int), .bool false].toArray ∧ Below w2.heap.size w2 wc)
        case first =>
          refine Ord.tb_start [9, 12] (by kernel_rfl) (Ord.tb_pre [0, 1, 2, 3, 4, 5, 6, 7, 8, 10, 11] [_, _, _, _, _, _, _, _, _, _, _] (k := 5) (by kernel_rfl) rfl rfl (by kernel_rfl) ?_)
          go_wp2_with fail
          refine Ord.nx_tb (Ord.tb_fork (i := 9) (j := 14) (k := 4) (by kernel_rfl) rfl rfl ?_ ?_)
          · go_wp2_with fail
            refine (HSZ.out _ HBD.out).mono ?_
            rintro e w3 ⟨rfl, hb3⟩
            have hb3' : Below w2.heap.size w2 w3 := HBD.out.trans hb3
            have HB3 := Lib.hid (⟨hb3, hb3'⟩ : _ ∧ _)
            clear hb3 hb3' hv0 hv1
            go_wp2_with fail
            refine Ord.nx_tb2 HB3.out.1 (Ord.tb_fork (i := 12) (j := 14) (k := 3) (by kernel_rfl) rfl rfl ?_ ?_)
            · go_wp2_with fail
              refine (HBL.out _).mono ?_
              rintro e _ ⟨rfl, rfl⟩
              go_wp2_with fail
              refine Ord.nx_tb2 (Below.refl _ _) (Ord.tb_ords [13, 14, 15] (by kernel_rfl) rfl (by kernel_rfl) (Ord.ord_all [_, _, _] rfl (by kernel_rfl) ?_))
              have HN4 := Lib.hid (Blk.new w3 35 #[.int .i64 0, .int .i64 0, .int .i64 0, .bool false])
              go_wp2_with
                (refine wpList_store_all rfl 35 (.tmp 8) (.tmp 47) rfl w3.heap.size 35 [.int .i64 0, .int .i64 0, .int .i64 0, .bool false] [.int .i64 (dev : Int), .int .i64 (q : Int), .int .i64 (t2 : Int), .bool false] rfl rfl HN4.out rfl (by kernel_rfl) (pc1_one _ _ _) ?_
                 intro w6 hb6 hg6 hz6)
              have HB6 := Lib.hid (⟨hb6, (HB3.out.2.alloc HB3.out.2.size _).grown hg6 (by simp; have := HB3.out.2.size; omega) (fun k hk => by injection hk with hk; have := HB3.out.2.size; omega)⟩ : _ ∧ _)
              clear hb6 hg6 hz6
              go_wp2_with fail
              refine Ord.nx_end ?_
              go_wp2_with fail
              go_meet
              exact ⟨_, rfl, HB3.out.2.size, HB6.out.1, HB6.out.2⟩
            · go_wp2_with fail
              refine Ord.nx_tb2 (below_al' _) (Ord.tb_ords [12, 13, 15] (by kernel_rfl) rfl (by kernel_rfl) (Ord.ord_one rfl ?_))
              go_wp2_with fail
              refine (HBL.out _).mono ?_
              rintro e _ ⟨rfl, rfl⟩
              go_wp2_with fail
              refine Ord.nx_and (Below.refl _ _) (Ord.ord_all [_, _] rfl (by kernel_rfl) ?_)
              have HN4 := Lib.hid (Blk.new w3 35 #[.int .i64 0, .int .i64 0, .int .i64 0, .bool false])
              go_wp2_with
                (refine wpList_store_all rfl 35 (.tmp 8) (.tmp 47) rfl w3.heap.size 35 [.int .i64 0, .int .i64 0, .int .i64 0, .bool false] [.int .i64 (dev : Int), .int .i64 (q : Int), .int .i64 (t2 : Int), .bool false] rfl rfl HN4.out rfl (by kernel_rfl) (pc1_one _ _ _) ?_
                 intro w6 hb6 hg6 hz6)
              have HB6 := Lib.hid (⟨hb6, (HB3.out.2.alloc HB3.out.2.size _).grown hg6 (by simp; have := HB3.out.2.size; omega) (fun k hk => by injection hk with hk; have := HB3.out.2.size; omega)⟩ : _ ∧ _)
              clear hb6 hg6 hz6
              go_wp2_with fail
              refine Ord.nx_end ?_
              go_wp2_with fail
              go_meet
              exact ⟨_, rfl, HB3.out.2.size, HB6.out.1, HB6.out.2⟩
          · go_wp2_with fail
            have hbA : Below w2.heap.size w2 (w2.drew.alloc (.cells #[.int .i64 0, .int .i64 0, .int .i64 0, .bool false] 35)) := (below_drewN (Below.refl w2.heap.size w2) 1).trans (show Below w2.heap.size w2.drew _ from below_al' (w := w2.drew) _)
            have HBA3 := Lib.hid hbA
            clear hbA
            refine Ord.nx_tb2 (below_al' _) (Ord.tb_ords [9, 12, 13, 15] (by kernel_rfl) rfl (by kernel_rfl) (Ord.ord_one rfl ?_))
            go_wp2_with fail
            refine (HSZ.out _ HBA3.out).mono ?_
            rintro e w3 ⟨rfl, hb3⟩
            have HB3 := Lib.hid (⟨hb3, HBA3.out.trans (hb3.mono HBA3.out.size)⟩ : _ ∧ _)
            have HN4 := Lib.hid ((Blk.new w2.drew 35 #[.int .i64 0, .int .i64 0, .int .i64 0, .bool false]).below_ hb3)
            clear hb3 hv0 hv1
            go_wp2_with fail
            refine Ord.nx_and HB3.out.1 (Ord.ord_one rfl ?_)
            go_wp2_with fail
            refine (HBL.out _).mono ?_
            rintro e _ ⟨rfl, rfl⟩
            go_wp2_with fail
            refine Ord.nx_and (Below.refl _ _) (Ord.ord_all [_, _] rfl (by kernel_rfl) ?_)
            go_wp2_with
              (refine wpList_store_all rfl 35 (.tmp 8) (.tmp 47) rfl w2.heap.size 35 [.int .i64 0, .int .i64 0, .int .i64 0, .bool false] [.int .i64 (dev : Int), .int .i64 (q : Int), .int .i64 (t2 : Int), .bool false] rfl rfl HN4.out rfl (by kernel_rfl) (pc1_one _ _ _) ?_
               intro w6 hb6 hg6 hz6)
            have HB6 := Lib.hid (⟨hb6, HB3.out.2.grown hg6 HB3.out.2.size (fun k hk => by injection hk with hk; omega)⟩ : _ ∧ _)
            clear hb6 hg6 hz6
            go_wp2_with fail
            refine Ord.nx_end ?_
            go_wp2_with fail
            go_meet
            exact ⟨_, rfl, Nat.le_refl _, HB6.out.1, HB6.out.2⟩
        case rest =>
          obtain ⟨gx, rfl, hgx, hkx, hbc⟩ := hcut
          have HX := Lib.hid (⟨hgx, hkx⟩ : _ ∧ _)
          have HVC := Lib.hid (HV2.out.below hbc)
          have HBC := Lib.hid (HB2.out.trans (hbc.mono HB2.out.size))
          have HKC := Lib.hid (HK2.out.below_ hbc)
          have HBAC := Lib.hid (HBA2.out.below hbc)
          have hlc : w.heap.size < wc.heap.size := Nat.lt_of_lt_of_le hlt2 hbc.size
          have HLL := Lib.hid (⟨hlt2, hlc⟩ : _ ∧ _)
          clear hgx hkx hbc HV2 HB2 HK2 HBA2 hv0 hv1 HSZ HBD hlt2
          obtain ⟨k, hk⟩ : ∃ k, id.length = k := ⟨_, rfl⟩
          have hk16 : 1 ≤ k ∧ k ≤ 16 := by rw [← hk]; exact HIL.out
          have hwk : IntKind.u8.wrap (k : Int) = (k : Int) := IntWalk.u8_in _ (by omega)
          have hwm : IntKind.u64.wrap (m : Int) = (m : Int) := IntWalk.u64_in _ (by omega)
          have hone : (#[.int .u8 (k : Int)] : Array Value) = cellsOf [UInt8.ofNat k] := by
            show _ = (([UInt8.ofNat k].map B8).toArray : Array Value)
            simp only [List.map_cons, List.map_nil, B8_ofNat]
            rw [Nat.mod_eq_of_lt (show k < 256 by omega)]
          have hbk := below_al' (w := wc) (.cells #[.int .u8 (k : Int)] 5)
          have hkk : BAt (wc.alloc (.cells #[.int .u8 (k : Int)] 5)) (some ⟨wc.heap.size, 0, none⟩) [UInt8.ofNat k] := by
            rw [hone]
            exact (Blk.new wc 5 (cellsOf [UInt8.ofNat k])).bat
          have HNU := Lib.hid (number_yes (some ⟨wc.heap.size, 0, none⟩) [UInt8.ofNat k] 1 1 m 2 _ rfl (by decide) hkk (by decide) (by decide) (by omega))
          have HBK := Lib.hid (⟨hbk, HBC.out.trans (hbk.mono HBC.out.size)⟩ : _ ∧ _)
          have HKI := Lib.hid hk
          have hk16' := Lib.hid hk16
          clear hone hbk hkk hk16
          go_wp2_with fail
          refine HNU.out.mono ?_
          rintro e w4 ⟨A4, N4, c4, rfl, ho4, hb4⟩
          obtain rfl : N4 = 3 := by have := ho4.len; simp [beB_length] at this; omega
          have HO4 := Lib.hid ho4
          have hb4c : Below wc.heap.size wc w4 := HBK.out.1.trans (hb4.mono HBK.out.1.size)
          have HB4 := Lib.hid (⟨hb4, hb4c, HBK.out.2.trans (hb4.mono HBK.out.2.size)⟩ : _ ∧ _ ∧ _)
          clear ho4 hb4 hb4c HNU
          go_wp2_with
            (refine Rec.wpList_append_str rfl (.tmp 55) (.tmp 56) 38 9 rfl Pl.strTy wc.heap.size 5 Pl.byteTy A4 3 c4 ([UInt8.ofNat k] ++ beB m 2) rfl (HO4.out.mono HBK.out.1.size) id rfl (3 + k) (by rw [HKI.out]) (by have := hk16'.out; omega) HB4.out.2.1.size ?_
             intro A5 c5 w5 ho5 hg5 hb5
             have HO5 := Lib.hid ho5
             have HB5 := Lib.hid (⟨HB4.out.2.1.trans hb5, HB4.out.2.2.trans (hb5.mono HBC.out.size)⟩ : _ ∧ _)
             have hx1 := (HX.out.2.below_ HB5.out.1).cell 1
             simp at hx1
             clear ho5 hg5 hb5)
          refine (tagOf_c w5 1 0 q (by decide) (by decide) (by have := HV.out.room; have := HQ.out; omega)).mono ?_
          rintro e w6 ⟨rfl, hb6⟩
          have HO6 := Lib.hid (HO5.out.below hb6)
          have HB6 := Lib.hid (⟨HB5.out.1.trans (hb6.mono HB5.out.1.size), HB5.out.2.trans (hb6.mono HB5.out.2.size)⟩ : _ ∧ _)
          have hhd : headM b.length id = [UInt8.ofNat k] ++ beB m 2 ++ id := by unfold headM; rw [HM.out, HKI.out]
          have HBK6 := Lib.hid (block_any (w := w6) (tagM 1 0 q) rfl A5 (3 + k) c5 (headM b.length id) (by rw [hhd]; exact HO6.out.bat) (by rw [headM_len, HKI.out]) (by have := hk16'.out; omega) (fun h0 => by
            rcases HO6.out.form with ⟨_, h1, _⟩ | ⟨g, h1, _⟩
            · omega
            · rw [h0] at h1; cases h1) ((HV.out.below HB6.out.2).tab) (HV.out.below HB6.out.2).gc)
          clear hb6 hx1 hhd HO4 HB4 HO5 HB5
          go_wp2_with fail
          refine HBK6.out.mono ?_
          rintro e w7 ⟨g7, rfl, hg7, hk7, hb7⟩
          have HB7 := Lib.hid (⟨HB6.out.1.trans (hb7.mono HB6.out.1.size), HB6.out.2.trans (hb7.mono HB6.out.2.size)⟩ : _ ∧ _)
          have hwc7 := HB6.out.1.size
          have hrow : Rows (w7.alloc (.cells #[.slice (some ⟨g7, 0, none⟩) 64 64] 38)) w7.heap.size wc.heap.size (frontM q id b 0) (.slice (some ⟨w7.heap.size, 0, none⟩) 1 1) :=
            ⟨[.slice (some ⟨g7, 0, none⟩) 64 64], Vec.of_blk (Blk.new w7 38 #[.slice (some ⟨g7, 0, none⟩) 64 64]) (Nat.le_refl _) rfl (by decide), rfl, fun i c hc => by
              cases i with
              | zero =>
                have : c = blkM (tagM 1 0 q) (headM b.length id) := by simpa [frontM] using hc.symm
                subst this
                exact ⟨g7, rfl, by omega, hk7.alloc _⟩
              | succ i => simp [frontM] at hc⟩
          have HROW := Lib.hid hrow
          have hbr := below_al' (w := w7) (.cells #[.slice (some ⟨g7, 0, none⟩) 64 64] 38)
          have HBR := Lib.hid hbr
          have HV7 := Lib.hid (HVC.out.below HB7.out.1)
          have HX7 := Lib.hid (⟨HX.out.1, HX.out.2.below_ HB7.out.1⟩ : _ ∧ _)
          have HK7 := Lib.hid (HKC.out.below_ HB7.out.1)
          have HBA7 := Lib.hid (HBAC.out.below HB7.out.1)
          have hlt7 : w.heap.size < w7.heap.size := Nat.lt_of_lt_of_le hlc HB7.out.1.size
          clear hg7 hk7 hb7 hrow hbr HB6 HO6 HBK6 HVC HKC HBAC HX HBC hlc hwc7
          go_wp2_with fail
          go_loopw [10, 11] (fun rv iv wr => AppR w7 wc q id b D rv iv wr) (fun _ iv _ => m - (intOf iv).toNat)
          case atStart => exact ⟨0, Nat.zero_le _, rfl, HROW.out, HBR.out⟩
          case round =>
            obtain ⟨i, hiD, rfl, hrows, hbw⟩ := hrel
            obtain ⟨AR, cR, hrv⟩ := hrows.len
            rw [frontM_len] at hrv
            subst hrv
            have HROWS := Lib.hid hrows
            have HBW := Lib.hid hbw
            have hx1 := (HX7.out.2.below_ hbw).cell 1
            simp at hx1
            obtain ⟨p, hp⟩ : ∃ p, 56 * i = p := ⟨_, rfl⟩
            rw [hp]
            have HBAW := Lib.hid (HBA7.out.below hbw)
            clear hrows hbw
            by_cases hlt : p < m
            · have hltI : (p : Int) < (m : Int) := by omega
              obtain ⟨e', he⟩ : ∃ e', min m (p + 56) = e' := ⟨_, rfl⟩
              have hiD2 : i < D := by have := HDM.out.1; omega
              have hwp : IntKind.i64.wrap ((p : Int) + 56) = ((p + 56 : Nat) : Int) := by rw [show (p : Int) + 56 = ((p + 56 : Nat) : Int) by omega]; exact IntWalk.i64_in _ (by omega)
              obtain ⟨p2, hp2⟩ : ∃ p2, p + 56 = p2 := ⟨_, rfl⟩
              rw [hp2] at hwp he
              have hcut := fun W => run_cut_lh (P := Tryd.prog) 38 5 Pl.byteTy A m cap .i64 .i64 (p : Int) (e' : Int) p e' rfl rfl (by omega) (by omega) W
              obtain ⟨AC, hAC⟩ : ∃ AC, cutA A cap p = AC := ⟨_, rfl⟩
              rw [hAC] at hcut
              have hcb : BAt wr AC (chunkB b i) := by
                have h1 := (HBAW.out.cut cap p (by rw [HM.out]; exact hcap)).take 56
                rw [hAC, ← hp] at h1
                exact h1
              have hcl : (chunkB b i).length = e' - p := by unfold chunkB; rw [List.length_take, List.length_drop, HM.out, hp]; omega
              have hcn : AC = none → cap - p = 0 := fun h0 => by
                have : A = none := by
                  rw [← hAC] at h0
                  unfold cutA at h0
                  split at h0
                  · exact h0
                  · simpa using h0
                rw [hnil this]
                omega
              obtain ⟨f, hf⟩ : ∃ f, e' - p = f := ⟨_, rfl⟩
              rw [hf] at hcut hcl
              have hf56 : f ≤ 56 := by omega
              have HCB := Lib.hid (⟨hcb, hcl, hcn⟩ : _ ∧ _ ∧ _)
              have HP := Lib.hid (⟨hp, hp2, he, hf, hiD2, hlt, hf56⟩ : _ ∧ _ ∧ _ ∧ _ ∧ _ ∧ _ ∧ _)
              have hi1 : IntKind.i64.wrap ((i : Int) + 1) = ((i + 1 : Nat) : Int) := by rw [show (i : Int) + 1 = ((i + 1 : Nat) : Int) by omega]; exact IntWalk.i64_in _ (by omega)
              have hmin : min (m : Int) (p2 : Int) = (e' : Int) := by omega
              have HTB := Lib.hid (fun w' (hb : Below wr.heap.size wr w') => tagOf_c w' 2 (i + 1) q (by decide) (by omega) (by have := HV.out.room; have := HQ.out; omega) : ∀ w', Below wr.heap.size wr w' → _)
              clear hAC hcb hcl hcn hp hp2 hf hlt hiD2 hf56 he
              go_wp2_with fail
              refine Ord.region_ordM [5] [11, 12] [0, 1, 2, 3, 4, 6, 7, 8, 9, 10, 11, 12, 13, 5, 14, 15, 16, 17] (by kernel_rfl) (by kernel_rfl) (by kernel_rfl) (by kernel_rfl) (Ord.ord_run [0, 1, 2, 3, 4, 6, 7, 8, 9, 10] [_, _, _, _, _, _, _, _, _, _] rfl (by kernel_rfl) ?_)
              go_wp2_with fail
              refine Ord.nx_ord (Ord.ord_pure (.int .i64 (p2 : Int)) rfl (by kernel_rfl) rfl (fun w' => by first | (go_simp; done) | (go_simp; exact hwp)) ?_)
              simp only [Act.put, List.setIfInBounds_toArray]
              refine Ord.ord_pure (.int .i64 (e' : Int)) rfl (by kernel_rfl) rfl (fun w' => ?_) ?_
              · go_simp
                split <;> omega
              simp only [Act.put]
              refine Ord.ord_run [13] [_] rfl (by kernel_rfl) ?_
              go_wp2_with fail
              refine Ord.nx_ord (Ord.ord_oneM rfl (by kernel_rfl) ?_)
              go_wp2_with fail
              refine (HTB.out wr.drew (below_drewN (Below.refl _ _) 1)).mono ?_
              rintro e w8 ⟨rfl, hb8⟩
              have hb8' : Below wr.heap.size wr w8 := (show Below wr.heap.size wr wr.drew from below_drewN (Below.refl _ _) 1).trans hb8
              have HB8 := Lib.hid (⟨hb8, hb8', HBW.out.trans (hb8'.mono HBW.out.size)⟩ : _ ∧ _ ∧ _)
              have HV8 := Lib.hid (HV7.out.below HB8.out.2.2)
              have HBK8 := Lib.hid (block_any (w := w8) (tagM 2 (i + 1) q) rfl AC f (cap - p) (chunkB b i) (HCB.out.1.below hb8') HCB.out.2.1 HP.out.2.2.2.2.2.2 HCB.out.2.2 HV8.out.tab HV8.out.gc)
              have HRW8 := Lib.hid (HROWS.out.below hb8')
              clear hb8 hb8' hx1 hcut
              go_wp2_with fail
              refine Ord.nx_and HB8.out.1 (Ord.ord_all [_, _, _, _] rfl (by kernel_rfl) ?_)
              go_wp2_with fail
              refine HBK8.out.mono ?_
              rintro e w9 ⟨g9, rfl, hg9, hk9, hb9⟩
              have HB9 := Lib.hid (⟨hb9, HB8.out.2.2.trans (hb9.mono HB8.out.2.2.size)⟩ : _ ∧ _)
              have hba := below_al' (w := w9) (.cells #[.slice (some ⟨g9, 0, none⟩) 64 64] 38)
              obtain ⟨vs, hvec, hrb⟩ := (HRW8.out.below hb9).below hba
              rw [frontM_len] at hvec
              have HVEC := Lib.hid hvec
              have HRB := Lib.hid hrb
              have HK9 := Lib.hid (hk9.alloc (.cells #[.slice (some ⟨g9, 0, none⟩) 64 64] 38))
              have HNW := Lib.hid (Blk.new w9 38 #[.slice (some ⟨g9, 0, none⟩) 64 64])
              have hg9c : wc.heap.size ≤ g9 := by have := HB9.out.2.size; have := HB8.out.2.2.size; have := HB7.out.1.size; omega
              have hw7 := HB9.out.2.size
              clear hg9 hk9 hb9 hba hvec hrb HBK8
              go_wp2_with
                (refine wpList_append_vec rfl (.tmp 70) (.tmp 85) _ rfl 24 _ rowsTy rfl HVEC.out ⟨w9.heap.size, 0, none⟩ 1 1 [.slice (some ⟨g9, 0, none⟩) 64 64] rfl rfl (blk_news HNW.out) (by intro u hu; simp at hu; subst hu; rfl) ?c1 ?c2 ?_
                 case c1 => unfold maxLen; omega
                 case c2 => omega
                 intro v10 w10 row hv10 hg10 hrow
                 have HV10 := Lib.hid hv10
                 have HR10 := Lib.hid (HRB.out.snoc hg10 hrow hg9c HK9.out)
                 have HG10 := Lib.hid (⟨hg10, hrow⟩ : _ ∧ _)
                 clear hv10 hg10 hrow)
              refine Ord.nx_end ?_
              go_wp2_with fail
              go_roundw
              case rel =>
                refine ⟨i + 1, HP.out.2.2.2.2.1, ?_, ⟨vs ++ [.slice (some ⟨g9, 0, none⟩) 64 64], ?_, ?_⟩, ?_⟩
                · have h1 := HP.out.1
                  have h2 := HP.out.2.1
                  rw [show 56 * (i + 1) = p2 by omega]
                · rw [frontM_len]
                  refine HV10.out.mono fun g _ hg => ?_
                  rcases hg with hg | hg
                  · exact hg
                  · have h1 := hg.1
                    simp only [World.size_alloc] at h1
                    show w7.heap.size ≤ g
                    omega
                · rw [frontM_succ]
                  exact HR10.out
                · refine (HB9.out.2.alloc HB9.out.2.size _).grown HG10.out.1 (by simp; omega) fun g hg => ?_
                  rcases HG10.out.2 with h0 | ⟨g', cs, h0, h1, _⟩
                  · rw [h0] at hg; cases hg
                  · rw [h0] at hg; injection hg with hg; omega
              case measure =>
                have h1 := HP.out.2.1
                have h2 := HP.out.2.2.2.2.2.1
                simp [intOf]
                omega
            · have hltI : ¬ (p : Int) < (m : Int) := by omega
              obtain rfl : D = i := by
                have h1 := HDM.out.2 i
                omega
              have HB8 := Lib.hid HBW.out
              have HV8 := Lib.hid (HV7.out.below HB8.out)
              have hi1 : IntKind.i64.wrap ((D : Int) + 1) = ((D + 1 : Nat) : Int) := by rw [show (D : Int) + 1 = ((D + 1 : Nat) : Int) by omega]; exact IntWalk.i64_in _ (by omega)
              have HTB := Lib.hid (tagOf_c wr 3 (D + 1) q (by decide) (by omega) (by have := HV.out.room; have := HQ.out; omega))
              clear hp hlt HBW
              go_wp2_with fail
              refine HTB.out.mono ?_
              rintro e w8 ⟨rfl, hb8⟩
              have HB9 := Lib.hid (HB8.out.trans (hb8.mono HB8.out.size))
              have HV9 := Lib.hid (HV8.out.below hb8)
              have HRW8 := Lib.hid (HROWS.out.below hb8)
              have HBK8 := Lib.hid (block_any (w := w8) (tagM 3 (D + 1) q) rfl none 0 0 [] (BAt.nil_ _ _) rfl (by decide) (fun _ => rfl) HV9.out.tab HV9.out.gc)
              clear hb8 hx1 HTB HB8 HV8
              go_wp2_with fail
              refine HBK8.out.mono ?_
              rintro e w9 ⟨g9, rfl, hg9, hk9, hb9⟩
              have HB10 := Lib.hid (HB9.out.trans (hb9.mono HB9.out.size))
              have hba := below_al' (w := w9) (.cells #[.slice (some ⟨g9, 0, none⟩) 64 64] 38)
              obtain ⟨vs, hvec, hrb⟩ := (HRW8.out.below hb9).below hba
              rw [frontM_len] at hvec
              have HVEC := Lib.hid hvec
              have HRB := Lib.hid hrb
              have HK9 := Lib.hid (hk9.alloc (.cells #[.slice (some ⟨g9, 0, none⟩) 64 64] 38))
              have HNW := Lib.hid (Blk.new w9 38 #[.slice (some ⟨g9, 0, none⟩) 64 64])
              have hg9c : wc.heap.size ≤ g9 := by have := HB9.out.size; have := HB7.out.1.size; omega
              have hw7 := HB10.out.size
              clear hg9 hk9 hb9 hba hvec hrb HBK8
              go_wp2_with
                (refine wpList_append_vec rfl (.tmp 87) (.tmp 94) _ rfl 24 _ rowsTy rfl HVEC.out ⟨w9.heap.size, 0, none⟩ 1 1 [.slice (some ⟨g9, 0, none⟩) 64 64] rfl rfl (blk_news HNW.out) (by intro u hu; simp at hu; subst hu; rfl) ?c1 ?c2 ?_
                 case c1 => unfold maxLen; omega
                 case c2 => omega
                 intro v10 w10 row hv10 hg10 hrow
                 obtain ⟨gZ, cZ, _, hvz, _⟩ := hv10.form (by omega)
                 subst hvz
                 have HV10 := Lib.hid hv10
                 have HR10 := Lib.hid (HRB.out.snoc hg10 hrow hg9c HK9.out)
                 have HB11 : Hid (Below w7.heap.size w7 w10) := Lib.hid (by
                   refine (HB10.out.alloc HB10.out.size _).grown hg10 (by simp; omega) fun g hg => ?_
                   rcases hrow with h0 | ⟨g', cs, h0, h1, _⟩
                   · rw [h0] at hg; cases hg
                   · rw [h0] at hg; injection hg with hg; omega)
                 clear hv10 hg10 hrow)
              have HZ : Hid (putM q id b = frontM q id b D ++ [blkM (tagM 3 (D + 1) q) []]) := Lib.hid (by unfold putM; rw [HM.out, HDD.out.1])
              have HZL : Hid ((putM q id b).length = D + 2) := Lib.hid (by rw [putM_len, HM.out, HDD.out.1]; omega)
              have hput := putM_64 (at_ := q) (b := b) HIL.out.2
              have HPUT := Lib.hid hput
              rw [← HZ.out] at HR10
              have HV11 := Lib.hid (HV7.out.below HB11.out)
              have HX11 := Lib.hid (HX7.out.2.below_ HB11.out)
              have HK11 := Lib.hid (HK7.out.below_ HB11.out)
              have HBW11 := Lib.hid (HB7.out.2.trans (HB11.out.mono HB7.out.2.size))
              have HSP : Hid (q + (D + 2) ≤ N) := Lib.hid (by
                have h1 := HR.out
                have h2 := HRT.out
                have h3 := HDD.out.2
                unfold roomM at h1
                rw [List.length_append, HQ.out] at h1
                split at h1 <;> omega)
              have hFlt : ∀ g, F g → g < w.heap.size := fun g hg => (HV.out.st.lt g hg).2
              have HFL := Lib.hid hFlt
              have hw11 : w.heap.size < w10.heap.size := HK11.out.lt
              have h711 := HB11.out.size
              have hgx7 : w2.heap.size ≤ gx := HX7.out.1
              have HW79 := Lib.hid hw7
              have hD2 : (((D + 1 + 1 : Nat) : Int)) = ((D + 2 : Nat) : Int) := rfl
              clear hput HB9 HB10 HV9 HRW8 HVEC HRB HK9 HNW hg9c hw7 HV7 HX7 HK7 HB7 hFlt HBAW HBA7 HROWS HROW HBR
              go_loopw [98] (fun iv wr => AppL B w10 F a pm n dev N H ws (putM q id b) (D + 2) iv wr) (fun iv _ => D + 2 - (intOf iv).toNat)
              case atStart => exact ⟨0, Nat.zero_le _, rfl, F, pm, Frm.refl HV11.out.st, by simpa using HV11.out.tp, HV11.out.on⟩
              case round =>
                obtain ⟨i, hiD, rfl, F', pm', hfr, htp, hon⟩ := hrel
                have HF := Lib.hid hfr
                have HTP := Lib.hid htp
                have HON := Lib.hid hon
                clear hfr htp hon
                by_cases hlt : i < D + 2
                · obtain ⟨c, hc⟩ : ∃ c, (putM q id b)[i]? = some c := ⟨_, List.getElem?_eq_getElem (by rw [HZL.out]; exact hlt)⟩
                  obtain ⟨g, hvs, hgb, hgk⟩ := HR10.out.2 i c hc
                  have hcell := HV10.out.at_ hvs
                  have hgZ := (HV10.out.blockF (by omega)).1
                  have hgZ7 : w7.heap.size ≤ gZ := by
                    rcases hgZ with h0 | h0
                    · exact h0
                    · have h1 := h0.1
                      simp only [World.size_alloc] at h1
                      have := HW79.out
                      omega
                  have hcw : wr.cell? ⟨gZ, i, none⟩ = some (.slice (some ⟨g, 0, none⟩) 64 64) := by
                    have h1 := HF.out.mods.keep gZ (cell_lt hcell) (fun h0 => by have := HFL.out _ h0; omega)
                    simp only [World.cell?] at hcell ⊢
                    rw [h1]
                    exact hcell
                  have hkw : Blk wr g 5 (cellsOf c) := hgk.mods HF.out.mods hgk.lt (fun h0 => by have := HFL.out _ h0; have := HLL.out; omega)
                  have hltI : (i : Int) < ((D + 1 + 1 : Nat) : Int) := by omega
                  have hltI2 : (i : Int) < (D : Int) + 1 + 1 := by omega
                  have hltN : i < D + 1 + 1 := by omega
                  have hltD : decide (i < D + 1 + 1) = true := decide_eq_true hltN
                  have hi1 : IntKind.i64.wrap ((i : Int) + 1) = (i : Int) + 1 := IntWalk.i64_in _ (by have := hD10; omega)
                  have hbd : Below wr.heap.size wr wr.drew := below_drewN (Below.refl _ _) 1
                  have hVW := HV11.out.next HF.out HTP.out HON.out
                  have hv0 := hVW.vol.cell 0
                  have hv1 := hVW.vol.cell 1
                  simp at hv0 hv1
                  have HAP := Lib.hid (St.appended (hVW.below hbd).st HTP.out (Nat.le_trans hVW.bs hbd.size) (by omega) HON.out (by have h1 := HSP.out; have h2 := HQ.out; rw [List.length_append, List.length_take]; omega) (some ⟨g, 0, none⟩) 64 c (hkw.below_ hbd).bat (HPUT.out c (List.mem_of_getElem? hc)))
                  have HBD := Lib.hid hbd
                  have HC := Lib.hid (⟨hc, hlt⟩ : _ ∧ _)
                  clear hc hvs hgb hgk hcell hgZ hgZ7 hkw hlt hVW hbd
                  go_wp2_with fail
                  refine Ord.region_ord [] [0, 1, 2, 3, 4, 5, 6, 7, 8, 9, 10, 11, 12, 13, 14, 15, 16] (by kernel_rfl) (by kernel_rfl) (by kernel_rfl) (by kernel_rfl) (Ord.ord_all [_, _, _, _, _, _, _, _, _, _, _, _, _, _, _, _, _] rfl (by kernel_rfl) ?_)
                  go_wp2_with fail
                  refine HAP.out.mono ?_
                  rintro e w12 ⟨F2, pm2, hf2, hr2⟩
                  have HF2 := Lib.hid (HF.out.trans (hf2.of_below HBD.out))
                  have hfz := hf2.fuse
                  clear hf2 HAP HBD hv0 hv1 hcw
                  rcases hr2 with ⟨rfl, ht2, hon2⟩ | ⟨rfl, ht2, hfu, hoff⟩
                  · have HT2 := Lib.hid (⟨ht2, hon2⟩ : _ ∧ _)
                    clear ht2 hon2 hfz
                    go_wp2_with fail
                    refine Ord.nx_end ?_
                    go_wp2_with fail
                    go_roundw
                    case rel =>
                      refine ⟨i + 1, HC.out.2, by simp, F2, pm2, HF2.out.more (by omega), ?_, HT2.out.2⟩
                      have h1 := HT2.out.1
                      rw [List.append_assoc] at h1
                      rw [List.take_add_one, HC.out.1]
                      exact h1
                    case measure =>
                      have := HC.out.2
                      simp [intOf]
                      omega
                  · have HT2 := Lib.hid (⟨ht2, hfu, hoff, hfz⟩ : _ ∧ _ ∧ _ ∧ _)
                    have hk12 := HK11.out.mods HF2.out.mods HK11.out.lt (fun h0 => by have := HFL.out _ h0; omega)
                    have HK12 := Lib.hid hk12
                    have HNF : Hid (¬ F2 w.heap.size) := Lib.hid (fun h0 => by
                      rcases HF2.out.grow _ h0 with h1 | h1
                      · have := HFL.out _ h1; omega
                      · omega)
                    clear ht2 hfu hoff hfz hk12
                    go_wp2_with fail
                    refine Ord.nx_end ?_
                    go_wp2_with
                      (refine wpList_store_all rfl 35 (.tmp 6) (.tmp 119) rfl w.heap.size 35 [.int .i64 0, .int .i64 0, .int .i64 0, .bool false] [.int .i64 0, .int .i64 0, .int .i64 0, .bool false] rfl rfl HK12.out rfl (by kernel_rfl) pc0_one ?_
                       intro w13 hb13 hg13 hz13)
                    have hld := load_pc hb13
                    have HF13 := Lib.hid (((HF2.out.of_below HBW11.out).row hg13 (Nat.le_refl _) HNF.out).more (show n + i + 1 ≤ n + 12 by have := HC.out.2; omega))
                    refine bodyPost_ret (v := .tuple #[.agg #[.int .i64 0, .int .i64 0, .int .i64 0, .bool false], .int .i64 2]) ?_ rfl (.inr ⟨HE.out, F2, pm2, HF13.out, .inr ⟨i, ?_, rfl, ?_, ?_, HT2.out.2.2.1⟩⟩)
                    · simp [results, Tryd.results11, asAddr, hld]
                    · rw [HM.out, HDD.out.1]
                      have := HC.out.2
                      omega
                    · rw [HQ.out]
                      exact HT2.out.1
                    · exact fun h0 => HT2.out.2.1 (HF.out.fuse h0)
                · obtain rfl : i = D + 2 := by omega
                  have hltI : ¬ (((D + 2 : Nat) : Int) < ((D + 1 + 1 : Nat) : Int)) := by omega
                  have hltI2 : ¬ (((D + 2 : Nat) : Int) < (D : Int) + 1 + 1) := by omega
                  have hxw := HX11.out.mods HF.out.mods HX11.out.lt (fun h0 => by have := HFL.out _ h0; have := HLL.out; omega)
                  have hx0 := hxw.cell 0
                  have hx1 := hxw.cell 1
                  have hx2 := hxw.cell 2
                  have hx3 := hxw.cell 3
                  simp at hx0 hx1 hx2 hx3
                  have HK12 := Lib.hid (HK11.out.mods HF.out.mods HK11.out.lt (fun h0 => by have := HFL.out _ h0; omega))
                  have HNF : Hid (¬ F' w.heap.size) := Lib.hid (fun h0 => by
                    rcases HF.out.grow _ h0 with h1 | h1
                    · have := HFL.out _ h1; omega
                    · omega)
                  clear hxw hlt
                  go_wp2_with
                    (refine wpList_store_all rfl 35 (.tmp 6) (.tmp 122) rfl w.heap.size 35 [.int .i64 0, .int .i64 0, .int .i64 0, .bool false] [.int .i64 (dev : Int), .int .i64 (q : Int), .int .i64 (t2 : Int), .bool false] rfl rfl HK12.out rfl (by kernel_rfl) (pc1_one _ _ _) ?_
                     intro w13 hb13 hg13 hz13)
                  have hld := load_pc hb13
                  have HF13 := Lib.hid (((HF.out.of_below HBW11.out).row hg13 (Nat.le_refl _) HNF.out).more (show n + (D + 2) ≤ n + 12 by omega))
                  refine bodyPost_ret (v := .tuple #[.agg #[.int .i64 (dev : Int), .int .i64 (q : Int), .int .i64 (t2 : Int), .bool false], .int .i64 0]) ?_ rfl (.inr ⟨HE.out, F', pm', HF13.out, .inl ⟨?_, ?_⟩⟩)
                  · simp [results, Tryd.results11, asAddr, hld]
                  · rw [HQ.out, HM.out, HDD.out.1, HDD.out.2]
                    rfl
                  · have h1 := HTP.out
                    rw [List.take_of_length_le (Nat.le_of_eq HZL.out)] at h1
                    rw [HQ.out]
                    exact HV.out.next HF13.out h1 HON.out
end Go.Proofs.YtloffgoenaomkaaDoor.Col
