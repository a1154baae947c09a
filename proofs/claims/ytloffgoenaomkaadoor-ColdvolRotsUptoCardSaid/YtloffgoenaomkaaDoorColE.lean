/- Layer 15 (coldvol): the objects of a tape, from the front on. -/
import Derived.Test.YtloffgoenaomkaaDoorCol7
import Derived.Test.YtloffgoenaomkaaDoorOrdFork
import Derived.Test.YtloffgoenaomkaaDoorFold2
import Derived.Deep.CutRange
namespace Go.Proofs.YtloffgoenaomkaaDoor.Col
open Go Go.RowKit Mem Pl Disk Crc _root_.Go.Proofs.YtloffgoenaomkaaDoor.Frame Hash
theorem objM_len {T : List (List UInt8)} (hT : ∀ c ∈ T, c.length = 64) {at_ : Nat} {id b : List UInt8} (h : objM T at_ = some (id, b)) : b.length ≤ 512 ∧ Rec.nameM id = true ∧ at_ + (2 + dataN b.length) ≤ T.length := by
  have h56 : ∀ k c want b, T.getD k [] = c → readM c want = some b → b.length = 56 := fun k c want b hc hr => by
    by_cases hk : k < T.length
    · refine readM_len hr (hT c ?_)
      rw [← hc, List.getD_eq_getElem?_getD, List.getElem?_eq_getElem hk]
      exact List.getElem_mem hk
    · rw [List.getD_eq_getElem?_getD, List.getElem?_eq_none (by omega)] at hc
      have hc' : c = [] := hc.symm
      subst hc'
      unfold readM at hr
      rw [if_neg (fun h => absurd h.2.2 (by decide))] at hr
      cases hr
  unfold objM at h
  split at h
  · cases h
  · rename_i hd _
    unfold restM at h
    split at h
    · cases h
    · rename_i hcond
      split at h
      · cases h
      · rename_i b' hb'
        have hlen := dataM_len h56 _ _ _ _ hb' (Nat.zero_le _)
        split at h
        · rename_i hcc
          have he := Option.some.inj h
          have e1 : (hd.drop 3).take (hd.getD 0 0).toNat = id := congrArg Prod.fst he
          have e2 : b' = b := congrArg Prod.snd he
          subst e2
          have hbn : b'.length = be ((hd.drop 1).take 2) := by
            rw [hlen]
            show min _ (0 + 56 * dataN _) = _
            unfold dataN
            omega
          refine ⟨by omega, ?_, ?_⟩
          · rw [← e1]; exact hcc.2
          · rw [hbn]; omega
        · cases h
theorem name_len' {id : List UInt8} (h : Rec.nameM id = true) : 1 ≤ id.length ∧ id.length ≤ 16 := by
  unfold Rec.nameM at h
  simp at h
  exact h.1
/-- The objects that can be read from a place on. -/
def eachGo (T : List (List UInt8)) : Nat → Nat → List (Nat × List UInt8 × List UInt8)
  | 0, _ => []
  | f + 1, at_ => if at_ < T.length then match objM T at_ with
    | none => []
    | some (id, b) => (at_, id, b) :: eachGo T f (at_ + (2 + dataN b.length))
    else []
def eachM (T : List (List UInt8)) : List (Nat × List UInt8 × List UInt8) := eachGo T (T.length + 1) 0
/-- A place in cells. -/
def pcV (x y z : Int) : List Value := [.int .i64 x, .int .i64 y, .int .i64 z, .bool false]
theorem pcV_one (x y z : Int) : ∀ u ∈ pcV x y z, u.oneCell' = true := fun u hu => by
  simp [pcV] at hu
  rcases hu with rfl | rfl | rfl | rfl <;> rfl
def EachR (w0 : World) (T : List (List UInt8)) (Inv : List (Nat × List UInt8 × List UInt8) → World → Prop) (iv : Value) (wr : World) : Prop :=
  ∃ (pre : List (Nat × List UInt8 × List UInt8)) (at_ f : Nat), iv = .int .i64 (at_ : Int) ∧ pre ++ eachGo T f at_ = eachM T ∧ at_ ≤ T.length ∧ T.length < at_ + f ∧ Inv pre wr ∧ Below w0.heap.size w0 wr ∧ pre.length ≤ at_
set_option maxRecDepth 100000 in
set_option maxHeartbeats 8000000 in
theorem each_any {B : Nat} {w0 w : World} {F : Nat → Prop} {a : Nat} {pm : PM} {n v dev N : Nat} {H ws : List (List UInt8)} (h : VS B w0 F a pm n v dev N H ws) (hn : n ≤ 1000000000) (hb0 : Below w0.heap.size w0 w)
    (k gv : Nat) (hcf : ∀ (args : Array Value) (w : World), (callFunc k args).run Tryd.prog w = .ok (.enter k args) w) (Inv : List (Nat × List UInt8 × List UInt8) → World → Prop) (hi0 : Inv [] w) (hst : ∀ (pre : List (Nat × List UInt8 × List UInt8)) (w w' : World), Inv pre w → Below w.heap.size w w' → Inv pre w')
    (hsee : ∀ (w1 w2 : World) (pre : List (Nat × List UInt8 × List UInt8)) (at_ : Nat) (id b : List UInt8) (A : Option Addr) (m cap : Nat), Inv pre w1 → Below w0.heap.size w0 w1 → Below w1.heap.size w1 w2 → id.length ≤ 16 → BAt w2 A b → b.length = m → m ≤ 512 → (A = none → cap = 0) → pre.length ≤ 4096 →
      Calls Tryd.prog k #[.agg (pcV dev at_ ((2 + dataN m : Nat) : Int)).toArray, .string (Rec.S8 id), .slice A m cap, .pointer (some ⟨gv, 0, none⟩)] w2 fun e w' => e = .returned (.tuple #[]) ∧ Inv (pre ++ [(at_, id, b)]) w' ∧ Mods w2.heap.size (fun x => w0.heap.size ≤ x ∧ x < w1.heap.size) w2 w') :
    Calls Tryd.prog 45 #[.pointer (some ⟨v, 0, none⟩), .func (.func k) #[] #[.pointer (some ⟨gv, 0, none⟩)]] w fun e w' => e = .returned (.tuple #[]) ∧ Inv (eachM (H ++ ws)) w' ∧ Below w0.heap.size w0 w' := by
  have HV := Lib.hid h
  have HSEE := Lib.hid hsee
  have HST := Lib.hid hst
  have hrm := h.room
  obtain ⟨T, hT⟩ : ∃ T, H ++ ws = T := ⟨_, rfl⟩
  have HT := Lib.hid hT
  have hTl : T.length = H.length + ws.length := by rw [← hT, List.length_append]
  have h64 : ∀ c ∈ T, c.length = 64 := by rw [← hT]; exact h.sec
  have H64 := Lib.hid h64
  have HI0 := Lib.hid (⟨hi0, hb0⟩ : _ ∧ _)
  obtain ⟨q, hq⟩ : ∃ q, H.length + ws.length = q := ⟨_, rfl⟩
  have HQ := Lib.hid (⟨hq, hTl, hrm.1, hrm.2.1⟩ : _ ∧ _ ∧ _ ∧ _)
  have hq4 : q ≤ 4096 := by omega
  rw [hT]
  clear hsee hst hrm hT hTl h64 hi0 hb0 h hq
  go_enter Tryd.func45, Tryd.ntmps45
  go_wp2_with fail
  go_loopw [4] (fun iv wr => EachR w0 T Inv iv wr) (fun iv _ => T.length + 1 - (intOf iv).toNat)
  case atStart => exact ⟨[], 0, T.length + 1, rfl, rfl, Nat.zero_le _, by omega, HI0.out.1, HI0.out.2, Nat.le_refl _⟩
  case round =>
    obtain ⟨pre, at_, f, rfl, hpre, hat, hf, hinv, hbw, hpl⟩ := hrel
    have HPL := Lib.hid hpl
    have HR := Lib.hid (⟨hpre, hat, hf, hinv, hbw⟩ : _ ∧ _ ∧ _ ∧ _ ∧ _)
    have hvw := HV.out.below hbw
    have hv0 := hvw.vol.cell 0
    have hv1 := hvw.vol.cell 1
    simp at hv0 hv1
    have HVW := Lib.hid hvw
    have HSZ := Lib.hid (size_any hvw.st.at_ hvw.st.ok (hvw.st.low hn) hvw.tp)
    rw [HQ.out.1] at HSZ
    clear hpre hf hinv hbw hvw hpl
    go_wp2_with fail
    refine HSZ.out.mono ?_
    rintro e w2 ⟨rfl, hb2⟩
    have HB2 := Lib.hid hb2
    have HV2 := Lib.hid (HVW.out.below hb2)
    have hatq : at_ ≤ q := by have := HQ.out; omega
    clear hb2 HSZ hv0 hv1 hat
    by_cases hlt : at_ < q
    · have hltI : (at_ : Int) < (q : Int) := by omega
      have hob := object_any HV2.out hn at_ (by rw [HQ.out.1]; exact hlt)
      rw [HT.out] at hob
      have HOB := Lib.hid hob
      have HLT := Lib.hid hlt
      clear hob hlt
      go_wp2_with fail
      refine HOB.out.mono ?_
      rintro e w3 ⟨hb3, id, A, m, cap, b, rfl, ho3, hr3⟩
      have HB3 := Lib.hid (HB2.out.trans (hb3.mono HB2.out.size))
      have HV3 := Lib.hid (HV2.out.below hb3)
      have HO3 := Lib.hid ho3
      have HR3 := Lib.hid hr3
      clear hb3 ho3 hr3 HOB
      obtain ⟨ob, hob⟩ : ∃ ob, objM T at_ = ob := ⟨_, rfl⟩
      rw [hob] at HR3 ⊢
      have HOB := Lib.hid hob
      clear hob
      cases ob with
      | none =>
        have HE : Hid (Inv (eachM T) w3) := Lib.hid (by
          have h1 := HR.out.1
          have h2 : eachGo T f at_ = [] := by
            cases f with
            | zero => rfl
            | succ f => unfold eachGo; rw [if_pos (by have := HLT.out; have := HQ.out; omega), HOB.out]
          rw [h2, List.append_nil] at h1
          rw [← h1]
          exact HST.out _ _ _ HR.out.2.2.2.1 HB3.out)
        go_wp2_with fail
        exact bodyPost_ret (results_none rfl _ _ _) rfl ⟨rfl, HE.out, HR.out.2.2.2.2.trans (HB3.out.mono HR.out.2.2.2.2.size)⟩
      | some xx =>
        obtain rfl := HR3.out xx rfl
        have hol := objM_len H64.out HOB.out
        have hlm : b.length = m := HO3.out.len
        rw [hlm] at hol
        have hbz := blocksZ_nat (n := m) hol.1
        obtain ⟨D, hD⟩ : ∃ D, dataN m = D := ⟨_, rfl⟩
        rw [hD] at hbz hol
        obtain ⟨t2, ht2⟩ : ∃ t, 2 + D = t := ⟨_, rfl⟩
        rw [ht2] at hbz hol
        have HBL := Lib.hid (fun w : World => by have := blocks_any w (m : Int); rw [hbz] at this; exact this : ∀ w : World, Calls Tryd.prog 18 #[.int .i64 (m : Int)] w fun e w' => e = .returned (.int .i64 (t2 : Int)) ∧ w = w')
        have HD := Lib.hid (⟨hD, ht2, hol, hlm⟩ : _ ∧ _ ∧ _ ∧ _)
        have hv0 := HV3.out.vol.cell 0
        have hv1 := HV3.out.vol.cell 1
        simp at hv0 hv1
        clear hbz hD ht2 hol hlm HR3
        go_upto_region 4 with fail
        go_cut [9] from 27 to 36 (fun xv wc => ∃ gx, xv = .pointer (some ⟨gx, 0, none⟩) ∧ w3.heap.size ≤ gx ∧ Blk wc gx 35 (pcV dev at_ (t2 : Int)).toArray ∧ Below w3.heap.size w3 wc)
        case first =>
          refine Ord.tb_start [8] (by kernel_rfl) (Ord.tb_pre [0, 1, 2, 3, 4, 5, 6, 7] [_, _, _, _, _, _, _, _] (k := 4) (by kernel_rfl) rfl rfl (by kernel_rfl) ?_)
          go_wp2_with fail
          refine Ord.nx_tb (Ord.tb_fork (i := 8) (j := 10) (k := 3) (by kernel_rfl) rfl rfl ?_ ?_)
          · go_wp2_with fail
            refine (HBL.out _).mono ?_
            rintro e _ ⟨rfl, rfl⟩
            go_wp2_with fail
            refine Ord.nx_tb2 (Below.refl _ _) (Ord.tb_ords [9, 10, 11] (by kernel_rfl) rfl (by kernel_rfl) (Ord.ord_all [_, _, _] rfl (by kernel_rfl) ?_))
            have HN4 := Lib.hid (Blk.new w3.drew 35 (pcV 0 0 0).toArray)
            go_wp2_with
              (refine wpList_store_all rfl 35 (.tmp 9) (.tmp 36) rfl w3.heap.size 35 (pcV 0 0 0) (pcV dev at_ (t2 : Int)) rfl rfl HN4.out rfl (by kernel_rfl) (pcV_one _ _ _) ?_
               intro w6 hb6 hg6 hz6)
            have HB6 := Lib.hid (⟨hb6, ((below_drewN (Below.refl w3.heap.size w3) 1).alloc (Nat.le_refl _) (.cells (pcV 0 0 0).toArray 35)).grown hg6 (by simp) (fun k hk => by injection hk with hk; omega)⟩ : _ ∧ _)
            clear hb6 hg6 hz6
            go_wp2_with fail
            refine Ord.nx_end ?_
            go_wp2_with fail
            go_meet
            exact ⟨_, rfl, Nat.le_refl _, HB6.out.1, HB6.out.2⟩
          · go_wp2_with fail
            refine Ord.nx_tb2 (below_al' _) (Ord.tb_ords [8, 9, 11] (by kernel_rfl) rfl (by kernel_rfl) (Ord.ord_one rfl ?_))
            go_wp2_with fail
            refine (HBL.out _).mono ?_
            rintro e _ ⟨rfl, rfl⟩
            go_wp2_with fail
            refine Ord.nx_and (Below.refl _ _) (Ord.ord_all [_, _] rfl (by kernel_rfl) ?_)
            have HN4 := Lib.hid (Blk.new w3.drew 35 (pcV 0 0 0).toArray)
            go_wp2_with
              (refine wpList_store_all rfl 35 (.tmp 9) (.tmp 36) rfl w3.heap.size 35 (pcV 0 0 0) (pcV dev at_ (t2 : Int)) rfl rfl HN4.out rfl (by kernel_rfl) (pcV_one _ _ _) ?_
               intro w6 hb6 hg6 hz6)
            have HB6 := Lib.hid (⟨hb6, ((below_drewN (Below.refl w3.heap.size w3) 1).alloc (Nat.le_refl _) (.cells (pcV 0 0 0).toArray 35)).grown hg6 (by simp) (fun k hk => by injection hk with hk; omega)⟩ : _ ∧ _)
            clear hb6 hg6 hz6
            go_wp2_with fail
            refine Ord.nx_end ?_
            go_wp2_with fail
            go_meet
            exact ⟨_, rfl, Nat.le_refl _, HB6.out.1, HB6.out.2⟩
        case rest =>
          obtain ⟨gx, rfl, hgx, hkx, hbc⟩ := hcut
          have HX := Lib.hid (⟨hgx, hkx⟩ : _ ∧ _)
          have HBC := Lib.hid (⟨hbc, HB3.out.trans (hbc.mono HB3.out.size)⟩ : _ ∧ _)
          have c0 := hkx.cell 0
          have c1 := hkx.cell 1
          have c2 := hkx.cell 2
          have c3 := hkx.cell 3
          simp [pcV] at c0 c1 c2 c3
          have hbat : BAt wc A b := HO3.out.bat.below hbc
          have HS := Lib.hid (HSEE.out wr wc pre at_ id b A m cap HR.out.2.2.2.1 HR.out.2.2.2.2 HBC.out.2 (name_len' HD.out.2.2.1.2.1).2 hbat HD.out.2.2.2 HD.out.2.2.1.1 (fun h0 => by
            rcases HO3.out.form with ⟨_, _, h1⟩ | ⟨g', h1, _⟩
            · exact h1
            · rw [h0] at h1; cases h1) (by have := HPL.out; have := HLT.out; omega))
          rw [HD.out.1, HD.out.2.1] at HS
          clear hgx hkx hbc hbat hv0 hv1
          go_wp2_with fail
          refine HS.out.mono ?_
          rintro e w5 ⟨rfl, hi5, hm5⟩
          have H5 := Lib.hid (⟨hi5, hm5⟩ : _ ∧ _)
          have hk5 := HX.out.2.mods hm5 HX.out.2.lt (fun hx => by have := HX.out.1; have := HB3.out.size; omega)
          have c2' := hk5.cell 2
          simp [pcV] at c2'
          have hwr : IntKind.i64.wrap ((at_ : Int) + (t2 : Int)) = ((at_ + t2 : Nat) : Int) := by rw [show (at_ : Int) + (t2 : Int) = ((at_ + t2 : Nat) : Int) by omega]; exact IntWalk.i64_in _ (by have := HD.out.2.2.1.2.2; have := HQ.out; omega)
          clear hi5 hm5 hk5 c0 c1 c2 c3
          go_wp2_with fail
          go_roundw
          case rel =>
            have hq := HQ.out
            have hd := HD.out
            have hltt := HLT.out
            obtain ⟨f', hf'⟩ : ∃ f', f = f' + 1 := ⟨f - 1, by have := HR.out.2.2.1; omega⟩
            refine ⟨pre ++ [(at_, id, b)], at_ + t2, f', rfl, ?_, hd.2.2.1.2.2, by have := HR.out.2.2.1; omega, H5.out.1, ?_, by have := HPL.out; simp; omega⟩
            · rw [List.append_assoc, ← HR.out.1, hf']
              congr 1
              show _ = eachGo T (f' + 1) at_
              conv => rhs; unfold eachGo
              rw [if_pos (by omega), HOB.out]
              simp only [hd.2.2.2, hd.1, hd.2.1]
              rfl
            · have hwc : Below w0.heap.size w0 wc := HR.out.2.2.2.2.trans (HBC.out.2.mono HR.out.2.2.2.2.size)
              exact hwc.trans ((H5.out.2.mono hwc.size (G := fun _ => False) fun x hx hF => by omega).below fun _ _ hF => hF)
          case measure =>
            have := HD.out.2.1
            have := HLT.out
            have := HQ.out
            simp [intOf]
            omega
    · have hltI : ¬ (at_ : Int) < (q : Int) := by omega
      have hat : at_ = T.length := by have := HQ.out; omega
      have HE : Hid (Inv (eachM T) wr) := Lib.hid (by
        have h1 := HR.out.1
        have h2 : eachGo T f at_ = [] := by
          cases f with
          | zero => rfl
          | succ f => unfold eachGo; rw [if_neg (by omega)]
        rw [h2, List.append_nil] at h1
        rw [← h1]
        exact HR.out.2.2.2.1)
      clear hat
      go_wp2_with fail
      exact bodyPost_end (results_none rfl _ _ _) rfl ⟨rfl, HST.out _ _ _ HE.out HB2.out, HR.out.2.2.2.2.trans (HB2.out.mono HR.out.2.2.2.2.size)⟩
end Go.Proofs.YtloffgoenaomkaaDoor.Col
