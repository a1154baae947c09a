/- Layer 15 (coldvol): Root and Room. -/
import Derived.Test.YtloffgoenaomkaaDoorCol3
import Derived.Test.YtloffgoenaomkaaDoorHash
namespace Go.Proofs.YtloffgoenaomkaaDoor.Col
open Go Go.RowKit Mem Pl Disk Crc _root_.Go.Proofs.YtloffgoenaomkaaDoor.Frame Hash
/-- The root that a tape was sealed with. -/
def rootM (T : List (List UInt8)) : Option (List UInt8) :=
  if T.length < 2 then none else match readM (T.getD (T.length - 2) []) (tagM 4 0 (T.length - 2)), readM (T.getD (T.length - 1) []) (tagM 5 1 (T.length - 2)) with
  | some b, some _ => some (b.take 32)
  | _, _ => none
/-- A volume on a plant's tape. -/
structure VS (B : Nat) (w : World) (F : Nat → Prop) (a : Nat) (pm : PM) (n v dev N : Nat) (H ws : List (List UInt8)) : Prop where
  st : St B w F a pm n
  tp : TapeP pm dev N H ws
  vol : VolB w v a dev
  nf : ¬ F v
  on : pm.off = false
  tab : Tab w
  gB : 0 < B
  bs : B ≤ w.heap.size
section
variable {B : Nat} {w : World} {F : Nat → Prop} {a : Nat} {pm : PM} {n v dev N : Nat} {H ws : List (List UInt8)}
theorem VS.gc (h : VS B w F a pm n v dev N H ws) : 0 < w.heap.size := Nat.lt_of_lt_of_le h.gB h.bs
theorem VS.below {w' : World} (h : VS B w F a pm n v dev N H ws) (hb : Below w.heap.size w w') : VS B w' F a pm n v dev N H ws :=
  ⟨h.st.below hb, h.tp, h.vol.below_ hb, h.nf, h.on, h.tab.below hb h.gc, h.gB, Nat.le_trans h.bs hb.size⟩
theorem TapeP.mem_ws {pm : PM} {i n : Nat} {H ws : List (List UInt8)} (h : TapeP pm i n H ws) (hok : pm.Ok) : ∀ c ∈ ws, c.length = 64 := by
  intro c hc
  have h1 := h.ws
  have h2 : c ∈ (waitsOf pm i).map (·.2) := by rw [h1, behind_snd]; exact hc
  obtain ⟨x, hx, rfl⟩ := List.mem_map.1 h2
  unfold waitsOf at hx
  obtain ⟨y, hy, rfl⟩ := List.mem_map.1 hx
  exact hok.wlen y (List.mem_filter.1 hy).1
theorem VS.sec (h : VS B w F a pm n v dev N H ws) : ∀ c ∈ H ++ ws, c.length = 64 := by
  intro c hc
  rcases List.mem_append.1 hc with hc | hc
  · exact h.st.ok.sec dev _ c h.tp.dev hc
  · exact TapeP.mem_ws h.tp h.st.ok c hc
theorem VS.room (h : VS B w F a pm n v dev N H ws) : H.length + ws.length ≤ N ∧ N ≤ 4096 ∧ pm.tapes[dev - pm.disks.length]? = some N ∧ pm.disks.length ≤ dev ∧ dev ≤ 12 := by
  have h1 := h.st.ok.room dev _ h.tp.dev rfl
  have h2 := h.st.ok.most dev _ h.tp.dev
  have h3 := h.st.ok.tape dev _ h.tp.dev
  have h4 : pm.disks.length ≤ dev := by simpa using h3.symm
  have h5 := h.tp.lt
  have h6 := h.st.ok.n12
  rw [cnt_waits, h.tp.ws, behind_len] at h1
  refine ⟨h1, h2.2.2, ?_, h4, by omega⟩
  rw [List.getElem?_append_right h4] at h2
  exact h2.1
theorem VS.read (h : VS B w F a pm n v dev N H ws) (hn : n ≤ 1000000000) (k : Nat) (hk : k < H.length + ws.length) (want : List UInt8) (hw : want.length = 4) :
    Calls Tryd.prog 50 #[tapeV a dev, .int .i64 (k : Int), .agg (cellsOf want)] w fun e w' => Below w.heap.size w w' ∧
      ((∃ b g cap, readM ((H ++ ws).getD k []) want = some b ∧ e = .returned (.tuple #[.slice (some ⟨g, 4, none⟩) 56 cap, .bool true, .int .i64 0]) ∧ 56 ≤ cap ∧ w.heap.size ≤ g ∧ BAt w' (some ⟨g, 4, none⟩) b ∧ b.length = 56) ∨
       (readM ((H ++ ws).getD k []) want = none ∧ e = .returned (.tuple #[.slice none 0 0, .bool false, .int .i64 0]))) := by
  have hlt : k < (H ++ ws).length := by rw [List.length_append]; exact hk
  have e : (H ++ ws)[k]? = some ((H ++ ws).getD k []) := by rw [List.getD_eq_getElem?_getD, List.getElem?_eq_getElem hlt]; rfl
  exact tread_on h.st h.tp hn h.on k _ e (h.sec _ (List.mem_of_getElem? e)) want hw h.tab h.gc
end
theorem tagOf_c (w : World) (kind number at_ : Nat) (hk : kind < 256) (hn : number < 256) (ha : at_ < 65536) : Calls Tryd.prog 41 #[.int .i64 (kind : Int), .int .i64 (number : Int), .int .i64 (at_ : Int)] w fun e w' =>
    e = .returned (.agg (cellsOf (tagM kind number at_))) ∧ Below w.heap.size w w' := tagOf_any w kind number at_ hk hn ha
theorem tagM_len (a b c : Nat) : (tagM a b c).length = 4 := rfl
set_option maxRecDepth 100000 in
set_option maxHeartbeats 4000000 in
theorem vroot_any {B : Nat} {w : World} {F : Nat → Prop} {a : Nat} {pm : PM} {n v dev N : Nat} {H ws : List (List UInt8)} (h : VS B w F a pm n v dev N H ws) (hn : n ≤ 1000000000) :
    Calls Tryd.prog 15 #[.pointer (some ⟨v, 0, none⟩)] w fun e w' => e = .returned (.tuple #[.agg (cellsOf ((rootM (H ++ ws)).getD z32)), .bool (rootM (H ++ ws)).isSome]) ∧ Below w.heap.size w w' := by
  have HV := Lib.hid h
  have hvol := h.vol
  have hlt := hvol.lt
  have hv0 := hvol.cell 0
  have hv1 := hvol.cell 1
  simp at hv0 hv1
  have hal := run_allocHash
  have hb0 := (below_al' (w := w) (.cells (cellsOf z32) 44)).alloc (by simp : w.heap.size ≤ _) (.cells (cellsOf z32) 44)
  have hk0 := (Blk.new w 44 (cellsOf z32)).alloc (.cells (cellsOf z32) 44)
  have hk1 := Blk.new (w.alloc (.cells (cellsOf z32) 44)) 44 (cellsOf z32)
  have hs1 : (w.alloc (.cells (cellsOf z32) 44)).heap.size = w.heap.size + 1 := by simp
  rw [hs1] at hk1
  have HS := Lib.hid (size_any (h.below hb0).st.at_ h.st.ok (h.st.low hn) h.tp)
  have HB0 := Lib.hid hb0
  have HK0 := Lib.hid hk0
  have HK1 := Lib.hid hk1
  have HQ := Lib.hid h.room
  clear h hvol hb0 hk0 hk1 hs1 hal
  go_enter Tryd.func15, Tryd.ntmps15
  go_wp2_with fail
  refine HS.out.mono ?_
  rintro e w1 ⟨rfl, hb1⟩
  have HB1 := Lib.hid (HB0.out.trans (hb1.mono HB0.out.size))
  have HK01 := Lib.hid (HK0.out.below_ hb1)
  have HK11 := Lib.hid (HK1.out.below_ hb1)
  obtain ⟨q, hq⟩ : ∃ q, H.length + ws.length = q := ⟨_, rfl⟩
  have hq4 : q ≤ 4096 := by have := HQ.out; omega
  have HQL : Hid ((H ++ ws).length = q) := Lib.hid (by rw [List.length_append]; exact hq)
  rw [hq]
  clear hb1 HS HB0 HK0 HK1
  by_cases h2 : q < 2
  · have hR : rootM (H ++ ws) = none := by unfold rootM; rw [if_pos (by rw [HQL.out]; exact h2)]
    have hwr : IntKind.i64.wrap ((q : Int) - 2) = (q : Int) - 2 := IntWalk.i64_in _ (by omega)
    have hneg : (q : Int) - 2 < 0 := by omega
    clear h2 HQL hq
    go_wp2_with (first
      | (refine wpList_load_hash (op := ⟨some 20, _, _, _, _, _⟩) rfl (.tmp 4) rfl (w.heap.size + 1) _ z32 rfl HK11.out rfl ?_)
      | (refine wpList_store_hash rfl (.tmp 2) (.tmp 20) rfl w.heap.size _ z32 z32 rfl rfl HK01.out rfl rfl ?_
         intro w9 hk9 hg9 hz9))
    have HB9 := Lib.hid (HB1.out.grown hg9 HB1.out.size (fun k hk => by injection hk with hk; omega))
    clear hg9 hz9
    have hld := load_hash hk9 rfl
    refine bodyPost_ret (v := .tuple #[.agg (cellsOf z32), .bool false]) ?_ rfl ?_
    · simp [results, Tryd.results15, asAddr, hld]
    · exact ⟨by rw [hR]; rfl, HB9.out⟩
  · obtain ⟨k, hk⟩ : ∃ k, q - 2 = k := ⟨_, rfl⟩
    obtain rfl : q = k + 2 := by omega
    have HRM : Hid (rootM (H ++ ws) = match readM ((H ++ ws).getD k []) (tagM 4 0 k), readM ((H ++ ws).getD (k + 1) []) (tagM 5 1 k) with
      | some b, some _ => some (b.take 32)
      | _, _ => none) := Lib.hid (by
        unfold rootM
        rw [if_neg (by rw [HQL.out]; omega), HQL.out]
        rfl)
    have hwr : IntKind.i64.wrap (k : Int) = (k : Int) := IntWalk.i64_in _ (by omega)
    have hpos : ¬ ((k : Int) < 0) := by omega
    have hwr1 : IntKind.i64.wrap ((k : Int) + 1) = (k : Int) + 1 := IntWalk.i64_in _ (by omega)
    have HKQ : Hid (k + 1 < H.length + ws.length) := Lib.hid (by omega)
    have HK4 : Hid (k < 65536) := Lib.hid (by omega)
    clear h2 HQL hq hk hq4 HQ
    have hv01 := (HB1.out.cell (p := ⟨v, 0, none⟩) hlt).trans hv0
    have hv11 := (HB1.out.cell (p := ⟨v, 1, none⟩) hlt).trans hv1
    go_wp2_with fail
    refine Ord.region_ord [6] [0, 1, 2, 3, 4, 5, 6, 7, 8, 9, 10, 11, 12, 13, 14] (by kernel_rfl) (by kernel_rfl) (by kernel_rfl) (by kernel_rfl) (Ord.ord_run [0, 1, 2, 3, 4, 5] [_, _, _, _, _, _] rfl (by kernel_rfl) ?_)
    go_wp2_with fail
    refine Ord.nx_ord (Ord.ord_one rfl ?_)
    go_wp2_with fail
    refine (tagOf_c w1.drew 4 0 k (by decide) (by decide) HK4.out).mono ?_
    rintro e w2 ⟨rfl, hb2⟩
    have hb2' : Below w1.heap.size w1 w2 := (show Below w1.heap.size w1 w1.drew from below_drewN (Below.refl _ _) 1).trans hb2
    have HV2 := Lib.hid ((HV.out.below HB1.out).below hb2')
    have HB2 := Lib.hid (HB1.out.trans (hb2'.mono HB1.out.size))
    have HK02 := Lib.hid (HK01.out.below_ hb2')
    have HK12 := Lib.hid (HK11.out.below_ hb2')
    have HRD := Lib.hid (HV2.out.read hn k (by have := HKQ.out; omega) (tagM 4 0 k) rfl)
    have HBX := Lib.hid hb2
    clear hb2 hb2'
    go_wp2_with fail
    refine Ord.nx_and HBX.out (Ord.ord_all [_, _, _, _, _, _, _, _] rfl (by kernel_rfl) ?_)
    clear HBX
    go_wp2_with fail
    refine HRD.out.mono ?_
    rintro e w3 ⟨hb3, hr3⟩
    have HV3 := Lib.hid (HV2.out.below hb3)
    have HB3 := Lib.hid (HB2.out.trans (hb3.mono HB2.out.size))
    have HK03 := Lib.hid (HK02.out.below_ hb3)
    have HK13 := Lib.hid (HK12.out.below_ hb3)
    have hv03 := (HB3.out.cell (p := ⟨v, 0, none⟩) hlt).trans hv0
    have hv13 := (HB3.out.cell (p := ⟨v, 1, none⟩) hlt).trans hv1
    clear HRD HV2 HB2 HK02 HK12 HB1 HK01 HK11 hv01 hv11 hb3
    rcases hr3 with ⟨b, g3, c3, hM, rfl, hc3, hg3, ho3, hl3⟩ | ⟨hM, rfl⟩
    · have HO3 := Lib.hid ho3
      have HM := Lib.hid hM
      have HG3 := Lib.hid (⟨hc3, hg3, hl3⟩ : _ ∧ _ ∧ _)
      clear ho3 hM hc3 hg3 hl3
      go_wp2_with fail
      refine Ord.nx_end ?_
      go_wp2_with fail
      refine Ord.region_ordM [7] [5] [0, 1, 2, 3, 4, 6, 5, 7, 8, 9, 10, 11, 12, 13, 14, 15] (by kernel_rfl) (by kernel_rfl) (by kernel_rfl) (by kernel_rfl) (Ord.ord_run [0, 1, 2, 3, 4, 6] [_, _, _, _, _, _] rfl (by kernel_rfl) ?_)
      go_wp2_with fail
      refine Ord.nx_ord (Ord.ord_pure (.int .i64 ((k : Int) + 1)) rfl (by kernel_rfl) rfl (fun w' => by first | (go_simp; done) | (go_simp; exact hwr1)) ?_)
      simp only [Act.put, List.setIfInBounds_toArray]
      refine Ord.ord_oneM rfl (by kernel_rfl) ?_
      go_wp2_with fail
      refine (tagOf_c w3.drew 5 1 k (by decide) (by decide) HK4.out).mono ?_
      rintro e w4 ⟨rfl, hb4⟩
      have hb4' : Below w3.heap.size w3 w4 := (show Below w3.heap.size w3 w3.drew from below_drewN (Below.refl _ _) 1).trans hb4
      have HV4 := Lib.hid (HV3.out.below hb4')
      have HB4 := Lib.hid (HB3.out.trans (hb4'.mono HB3.out.size))
      have HK04 := Lib.hid (HK03.out.below_ hb4')
      have HK14 := Lib.hid (HK13.out.below_ hb4')
      have HRD := Lib.hid (HV4.out.read hn (k + 1) HKQ.out (tagM 5 1 k) rfl)
      have HBX := Lib.hid hb4
      have HO4 := Lib.hid (HO3.out.below hb4')
      clear hb4 hb4'
      go_wp2_with fail
      refine Ord.nx_and HBX.out (Ord.ord_all [_, _, _, _, _, _, _, _] rfl (by kernel_rfl) ?_)
      clear HBX
      go_wp2_with fail
      rw [← Int.natCast_succ k]
      refine HRD.out.mono ?_
      rintro e w5 ⟨hb5, hr5⟩
      have HB5 := Lib.hid (HB4.out.trans (hb5.mono HB4.out.size))
      have HK05 := Lib.hid (HK04.out.below_ hb5)
      have HK15 := Lib.hid (HK14.out.below_ hb5)
      have HO5 := Lib.hid (HO4.out.below hb5)
      clear HRD HV3 HV4 HB4 HK04 HK14 HB3 HK03 HK13 hv03 hv13 hb5 HO3 HO4
      rcases hr5 with ⟨b5, g5, c5, hM5, rfl, -, -, -, -⟩ | ⟨hM5, rfl⟩
      · have hR : rootM (H ++ ws) = some (b.take 32) := by rw [HRM.out, HM.out, hM5]
        clear hM5
        go_wp2_with fail
        refine Ord.nx_end ?_
        obtain ⟨w6, hr6, hk6, hg6, hz6⟩ := run_copy_bytes (P := Tryd.prog) 38 5 3 Pl.byteTy (w.heap.size + 1) 0 32 32 _ z32 HK15.out (some ⟨g3, 4, none⟩) 56 c3 b HO5.out HG3.out.2.2 32 (by decide) (by decide) (fun h0 => by cases h0)
        have e6 : List.take 0 z32 ++ List.take 32 b ++ List.drop (0 + 32) z32 = b.take 32 := by simp [z32]
        rw [e6] at hk6
        have hl6 : (b.take 32).length = 32 := by rw [List.length_take, HG3.out.2.2]; rfl
        have HB6 := Lib.hid (HB5.out.grown hg6 HB5.out.size (fun k hk => by injection hk with hk; omega))
        have HK06 := Lib.hid (HK05.out.grown hg6 (by intro h0; injection h0 with h0; omega))
        have HK16 := Lib.hid hk6
        have hal := run_hashAll (w.heap.size + 1)
        clear e6 hg6 hz6 hk6 HB5 HK05 HK15
        go_wp2_with (first
          | (refine wpList_load_hash (op := ⟨some 56, _, _, _, _, _⟩) rfl (.tmp 4) rfl (w.heap.size + 1) _ (b.take 32) rfl HK16.out hl6 ?_)
          | (refine wpList_store_hash rfl (.tmp 2) (.tmp 56) rfl w.heap.size _ z32 (b.take 32) rfl rfl HK06.out rfl hl6 ?_
             intro w9 hk9 hg9 hz9))
        have HB9 := Lib.hid (HB6.out.grown hg9 HB6.out.size (fun k hk => by injection hk with hk; omega))
        clear hg9 hz9
        have hld := load_hash hk9 hl6
        refine bodyPost_ret (v := .tuple #[.agg (cellsOf (b.take 32)), .bool true]) ?_ rfl ?_
        · simp [results, Tryd.results15, asAddr, hld]
        · exact ⟨by rw [hR]; rfl, HB9.out⟩
      · have hR : rootM (H ++ ws) = none := by rw [HRM.out, HM.out, hM5]
        clear hM5
        go_wp2_with fail
        refine Ord.nx_end ?_
        go_wp2_with (first
          | (refine wpList_load_hash (op := ⟨some 52, _, _, _, _, _⟩) rfl (.tmp 4) rfl (w.heap.size + 1) _ z32 rfl HK15.out rfl ?_)
          | (refine wpList_store_hash rfl (.tmp 2) (.tmp 52) rfl w.heap.size _ z32 z32 rfl rfl HK05.out rfl rfl ?_
             intro w9 hk9 hg9 hz9))
        have HB9 := Lib.hid (HB5.out.grown hg9 HB5.out.size (fun k hk => by injection hk with hk; omega))
        clear hg9 hz9
        have hld := load_hash hk9 rfl
        refine bodyPost_ret (v := .tuple #[.agg (cellsOf z32), .bool false]) ?_ rfl ?_
        · simp [results, Tryd.results15, asAddr, hld]
        · exact ⟨by rw [hR]; rfl, HB9.out⟩
    · have HM := Lib.hid hM
      clear hM
      go_wp2_with fail
      refine Ord.nx_end ?_
      go_wp2_with fail
      refine Ord.region_ordM [7] [5] [0, 1, 2, 3, 4, 6, 5, 7, 8, 9, 10, 11, 12, 13, 14, 15] (by kernel_rfl) (by kernel_rfl) (by kernel_rfl) (by kernel_rfl) (Ord.ord_run [0, 1, 2, 3, 4, 6] [_, _, _, _, _, _] rfl (by kernel_rfl) ?_)
      go_wp2_with fail
      refine Ord.nx_ord (Ord.ord_pure (.int .i64 ((k : Int) + 1)) rfl (by kernel_rfl) rfl (fun w' => by first | (go_simp; done) | (go_simp; exact hwr1)) ?_)
      simp only [Act.put, List.setIfInBounds_toArray]
      refine Ord.ord_oneM rfl (by kernel_rfl) ?_
      go_wp2_with fail
      refine (tagOf_c w3.drew 5 1 k (by decide) (by decide) HK4.out).mono ?_
      rintro e w4 ⟨rfl, hb4⟩
      have hb4' : Below w3.heap.size w3 w4 := (show Below w3.heap.size w3 w3.drew from below_drewN (Below.refl _ _) 1).trans hb4
      have HV4 := Lib.hid (HV3.out.below hb4')
      have HB4 := Lib.hid (HB3.out.trans (hb4'.mono HB3.out.size))
      have HK04 := Lib.hid (HK03.out.below_ hb4')
      have HK14 := Lib.hid (HK13.out.below_ hb4')
      have HRD := Lib.hid (HV4.out.read hn (k + 1) HKQ.out (tagM 5 1 k) rfl)
      have HBX := Lib.hid hb4
      clear hb4 hb4'
      go_wp2_with fail
      refine Ord.nx_and HBX.out (Ord.ord_all [_, _, _, _, _, _, _, _] rfl (by kernel_rfl) ?_)
      clear HBX
      go_wp2_with fail
      rw [← Int.natCast_succ k]
      refine HRD.out.mono ?_
      rintro e w5 ⟨hb5, hr5⟩
      have HB5 := Lib.hid (HB4.out.trans (hb5.mono HB4.out.size))
      have HK05 := Lib.hid (HK04.out.below_ hb5)
      have HK15 := Lib.hid (HK14.out.below_ hb5)
      clear HRD HV3 HV4 HB4 HK04 HK14 HB3 HK03 HK13 hv03 hv13 hb5 
      rcases hr5 with ⟨b5, g5, c5, hM5, rfl, -, -, -, -⟩ | ⟨hM5, rfl⟩
      · have hR : rootM (H ++ ws) = none := by rw [HRM.out, HM.out]
        clear hM5
        go_wp2_with fail
        refine Ord.nx_end ?_
        go_wp2_with (first
          | (refine wpList_load_hash (op := ⟨some 52, _, _, _, _, _⟩) rfl (.tmp 4) rfl (w.heap.size + 1) _ z32 rfl HK15.out rfl ?_)
          | (refine wpList_store_hash rfl (.tmp 2) (.tmp 52) rfl w.heap.size _ z32 z32 rfl rfl HK05.out rfl rfl ?_
             intro w9 hk9 hg9 hz9))
        have HB9 := Lib.hid (HB5.out.grown hg9 HB5.out.size (fun k hk => by injection hk with hk; omega))
        clear hg9 hz9
        have hld := load_hash hk9 rfl
        refine bodyPost_ret (v := .tuple #[.agg (cellsOf z32), .bool false]) ?_ rfl ?_
        · simp [results, Tryd.results15, asAddr, hld]
        · exact ⟨by rw [hR]; rfl, HB9.out⟩
      · have hR : rootM (H ++ ws) = none := by rw [HRM.out, HM.out]
        clear hM5
        go_wp2_with fail
        refine Ord.nx_end ?_
        go_wp2_with (first
          | (refine wpList_load_hash (op := ⟨some 52, _, _, _, _, _⟩) rfl (.tmp 4) rfl (w.heap.size + 1) _ z32 rfl HK15.out rfl ?_)
          | (refine wpList_store_hash rfl (.tmp 2) (.tmp 52) rfl w.heap.size _ z32 z32 rfl rfl HK05.out rfl rfl ?_
             intro w9 hk9 hg9 hz9))
        have HB9 := Lib.hid (HB5.out.grown hg9 HB5.out.size (fun k hk => by injection hk with hk; omega))
        clear hg9 hz9
        have hld := load_hash hk9 rfl
        refine bodyPost_ret (v := .tuple #[.agg (cellsOf z32), .bool false]) ?_ rfl ?_
        · simp [results, Tryd.results15, asAddr, hld]
        · exact ⟨by rw [hR]; rfl, HB9.out⟩
end Go.Proofs.YtloffgoenaomkaaDoor.Col
