/- The pager's 'Read'. -/
import Derived.Test.YtookhagpgkefpaaDoorFold10
namespace Go.Proofs.YtookhagpgkefpaaDoor.Pag
open Go Go.RowKit Mem Pl Disk Crc _root_.Go.Proofs.YtookhagpgkefpaaDoor.Frame
/-- Sectors side by side, joined. -/
def joinV (f : Nat → List UInt8) (at_ : Nat) : Nat → List UInt8
  | 0 => []
  | i + 1 => joinV f at_ i ++ f (at_ + i)
theorem joinV_len {f : Nat → List UInt8} (h : ∀ k, (f k).length = 64) (at_ : Nat) : ∀ i, (joinV f at_ i).length = 64 * i
  | 0 => rfl
  | i + 1 => by
    unfold joinV
    rw [List.length_append, joinV_len h at_ i, h]
    omega
/-- What is read of a page. -/
def readPg (f : Nat → List UInt8) (page : Nat) : Option (List UInt8) := readPage (joinV f (2 + page * 8) 8)
theorem virt_len {pm : PM} {dev N : Nat} {H : List (List UInt8)} {ws : Ws} (hd : Disk pm dev N H ws) (hok : pm.Ok) (k : Nat) : (virt H ws k).length = 64 := sec_len hd hok k
/-- What 'Read' answers. -/
def RetRd (w : World) (m : PgM) (f : Nat → List UInt8) (page : Int) (e : Ending) (w' : World) : Prop :=
  Below w.heap.size w w' ∧
  ((m.inUse page = false ∧ e = .returned (.tuple #[.slice none 0 0, .int .i64 90])) ∨
   (m.inUse page = true ∧ readPg f page.toNat = none ∧ e = .returned (.tuple #[.slice none 0 0, .int .i64 4])) ∨
   ∃ b A k c, m.inUse page = true ∧ readPg f page.toNat = some b ∧ e = .returned (.tuple #[.slice A k c, .int .i64 0]) ∧ Own w' w.heap.size 5 A k c b)
def RdR (w : World) (f : Nat → List UInt8) (page : Nat) (iv tv : Value) (wr : World) : Prop :=
  ∃ (i : Nat) (A : Option Addr) (c : Nat), i ≤ 8 ∧ iv = .int .i64 (i : Int) ∧ tv = .slice A (64 * i) c ∧ Own wr w.heap.size 5 A (64 * i) c (joinV f (2 + page * 8) i) ∧ Below w.heap.size w wr
theorem inUse_nat {m : PgM} {page : Int} (h : m.inUse page = true) : ∃ k : Nat, page = (k : Int) ∧ k < m.pages ∧ hasB m.use k = true := by
  unfold PgM.inUse at h
  simp only [Bool.and_eq_true, decide_eq_true_eq] at h
  exact ⟨page.toNat, by omega, by omega, h.2⟩
set_option maxRecDepth 100000 in
set_option maxHeartbeats 8000000 in
theorem pread_any {B : Nat} {w : World} {F : Nat → Prop} {a : Nat} {pm : PM} {n dev N : Nat} {H : List (List UInt8)} {ws : Ws} {g : Nat} {m : PgM} (hst : St B w F a pm n) (hd : Disk pm dev N H ws) (hn : n ≤ 900000000) (hon : pm.off = false)
    (x : PgB w g a dev m) (h384 : m.pages ≤ 384) (hN : 2 + 8 * m.pages ≤ N) (ht : Tab w) (hgc : 0 < w.heap.size) (page : Int) :
    Calls Tryd.prog 25 #[.pointer (some ⟨g, 0, none⟩), .int .i64 page] w (RetRd w m (virt H ws) page) := by
  have HU := Lib.hid (inUse_any x h384 page)
  have HX := Lib.hid x
  have HST := Lib.hid hst
  have HD := Lib.hid hd
  have HON := Lib.hid hon
  have HT := Lib.hid ht
  clear x hst hd hon ht
  cases hu : m.inUse page with
  | false =>
    rw [hu] at HU
    have HUF := Lib.hid hu
    clear hu
    go_enter Tryd.func25, Tryd.ntmps25
    go_wp2_with fail
    refine HU.out.mono ?_
    rintro e _ ⟨rfl, rfl⟩
    go_wp2_with fail
    go_ret2
    exact ⟨Below.refl _ _, .inl ⟨HUF.out, rfl⟩⟩
  | true =>
    rw [hu] at HU
    obtain ⟨page, rfl, hpl, _⟩ := inUse_nat hu
    have HUF := Lib.hid hu
    clear hu
    go_enter Tryd.func25, Tryd.ntmps25
    go_wp2_with fail
    refine HU.out.mono ?_
    rintro e _ ⟨rfl, rfl⟩
    go_wp2_with fail
    go_loopw [19, 6] (fun iv tv wr => RdR w (virt H ws) page iv tv wr) (fun iv _ _ => 8 - (intOf iv).toNat)
    case atStart => exact ⟨0, none, 0, by omega, rfl, rfl, Own.nil_ _ _ _, Below.refl _ _⟩
    case round =>
      obtain ⟨i, A, c, hi, rfl, rfl, hown, hbl⟩ := hrel
      have HO := Lib.hid hown
      have HBL := Lib.hid hbl
      have HXR := Lib.hid (HX.out.below hbl)
      have HSTR := Lib.hid (HST.out.below hbl)
      clear hown hbl
      by_cases hlt : i < 8
      · have hiI : (i : Int) < 8 := by omega
        have c0 := HXR.out.c0
        have c1 := HXR.out.c1
        have hwa : IntKind.i64.wrap ((page : Int) * 8) = (page : Int) * 8 := IntWalk.i64_in _ (by omega)
        have hwb : IntKind.i64.wrap (2 + (page : Int) * 8) = 2 + (page : Int) * 8 := IntWalk.i64_in _ (by omega)
        have hwc : IntKind.i64.wrap (2 + (page : Int) * 8 + (i : Int)) = 2 + (page : Int) * 8 + (i : Int) := IntWalk.i64_in _ (by omega)
        have hrd : pm.read (dev : Int) ((2 + page * 8 + i : Nat) : Int) = (some (virt H ws (2 + page * 8 + i)), 0) := HD.out.read HON.out (by omega)
        have hra := fun w' (hb : Below wr.heap.size wr w') => read_any (HSTR.out.below hb).at_ HSTR.out.ok (HSTR.out.low (by omega)) (dev : Int) ((2 + page * 8 + i : Nat) : Int)
        rw [hrd, show ((2 + page * 8 + i : Nat) : Int) = 2 + (page : Int) * 8 + (i : Int) by omega] at hra
        have HRA := Lib.hid hra
        have HSL : Hid ((virt H ws (2 + page * 8 + i)).length = 64) := Lib.hid (virt_len HD.out HST.out.ok _)
        clear hrd hra
        go_wp2_with fail
        refine Ord.region_ordM [13] [9, 10, 12] [0, 1, 2, 3, 4, 5, 6, 7, 8, 9, 10, 11, 12, 13, 14, 15, 16, 17, 18] (by kernel_rfl) (by kernel_rfl) (by kernel_rfl) (by kernel_rfl) (Ord.ord_run [0, 1, 2, 3, 4, 5, 6, 7, 8] [_, _, _, _, _, _, _, _, _] rfl (by kernel_rfl) ?_)
        go_wp2_with fail
        refine Ord.nx_ord (Ord.ord_pure (.int .i64 ((page : Int) * 8)) rfl (by kernel_rfl) (by rfl) (fun w' => by first | (go_simp; done) | (go_simp; exact hwa)) ?_)
        simp only [Act.put, List.setIfInBounds_toArray]
        refine Ord.ord_pure (.int .i64 (2 + (page : Int) * 8)) rfl (by kernel_rfl) (by rfl) (fun w' => by first | (go_simp; done) | (go_simp; exact hwb)) ?_
        simp only [Act.put]
        refine Ord.ord_run [11] [_] rfl (by kernel_rfl) ?_
        go_wp2_with fail
        refine Ord.nx_ord (Ord.ord_pure (.int .i64 (2 + (page : Int) * 8 + (i : Int))) rfl (by kernel_rfl) (by rfl) (fun w' => by first | (go_simp; done) | (go_simp; exact hwc)) ?_)
        simp only [Act.put]
        refine Ord.ord_oneM rfl (by kernel_rfl) ?_
        go_wp2_with fail
        refine (HRA.out _ (below_drewN (Below.refl _ _) 1)).mono ?_
        rintro e w4 ⟨A4, N4, c4, rfl, ho4, hb4⟩
        have hn4 : N4 = 64 := by have := ho4.len; rw [← this]; exact HSL.out
        subst hn4
        have HB4 := Lib.hid hb4
        have hb4' : Below wr.heap.size wr w4 := Below.trans (show Below wr.heap.size wr (wr.drewN 1) from below_drewN (Below.refl _ _) 1) (show Below wr.heap.size (wr.drewN 1) w4 from hb4)
        have HC4 := Lib.hid (HBL.out.trans (hb4'.mono HBL.out.size))
        have HO4 := Lib.hid ho4.bat
        have HOT := Lib.hid (HO.out.below hb4')
        have hsz4 : w.heap.size ≤ w4.heap.size := HC4.out.size
        clear ho4 hb4 hb4'
        go_wp2_with fail
        refine Ord.nx_and HB4.out ?_
        refine Ord.ord_all [_, _, _, _, _] rfl (by kernel_rfl) ?_
        go_wp2_with fail
        refine Ord.nx_end ?_
        clear c0 c1
        go_wp2_with
          (refine wpList_append_bytes rfl (.tmp 42) (.tmp 43) _ rfl w.heap.size _ Pl.byteTy A (64 * i) c _ rfl HOT.out A4 64 c4 _ rfl HO4.out HSL.out (64 * (i + 1)) (by omega) (by omega) hsz4 ?_
           intro A5 c5 w5 ho5 hg5 hb5 _
           have HO5 := Lib.hid ho5
           have HC5 := Lib.hid (HC4.out.trans hb5)
           clear ho5 hg5 hb5)
        go_roundw
        case rel => exact ⟨i + 1, A5, c5, by omega, by simp, rfl, HO5.out, HC5.out⟩
        case measure => simp [intOf]; omega
      · obtain rfl : i = 8 := by omega
        have hcl := HO.out.cap_le
        have htl := joinV_len (virt_len HD.out HST.out.ok) (2 + page * 8) 8
        obtain ⟨T, hT⟩ : ∃ T, joinV (virt H ws) (2 + page * 8) 8 = T := ⟨_, rfl⟩
        have HRP : Hid (readPg (virt H ws) page = readPage T) := Lib.hid (by unfold readPg; rw [hT])
        rw [hT] at HO htl
        obtain ⟨nn, hnn⟩ : ∃ nn, be (T.take 2) = nn := ⟨_, rfl⟩
        obtain ⟨S, hS⟩ : ∃ S, be ((T.drop 2).take 4) = S := ⟨_, rfl⟩
        have hnl : nn < 65536 := by rw [← hnn]; have := be_lt (T.take 2); rw [show (T.take 2).length = 2 by simp [htl]] at this; omega
        have hSl : S < 4294967296 := by rw [← hS]; have := be_lt ((T.drop 2).take 4); rw [show ((T.drop 2).take 4).length = 4 by simp [htl]] at this; omega
        have HRQ : Hid (readPage T = if nn ≤ 500 ∧ (more 0#32 ((T.drop 6).take nn)).toNat = S then some ((T.drop 6).take nn) else none) := Lib.hid (by unfold readPage; rw [hnn, hS])
        have HTL := Lib.hid htl
        have HNN := Lib.hid hnn
        have HS := Lib.hid hS
        have hgr : 0 < wr.heap.size := Nat.lt_of_lt_of_le hgc HBL.out.size
        have HTR := Lib.hid (HT.out.below HBL.out hgc)
        clear hT hnn hS htl
        go_wp2_with fail
        refine (take_yes A T 512 c 2 wr HTL.out hcl.1 (by omega) HO.out.bat (by omega) (by omega) (by omega)).mono ?_
        rintro e w3 ⟨A3, N3, c3, rfl, ho3, hb3⟩
        obtain rfl : N3 = 510 := by have := ho3.len; rw [List.length_drop, HTL.out] at this; omega
        have hc3 := ho3.cap_le.1
        have HO3 := Lib.hid ho3
        have HB3 := Lib.hid (HBL.out.trans (hb3.mono HBL.out.size))
        have HT3 := Lib.hid (HTR.out.below hb3 hgr)
        have hg3 := Nat.lt_of_lt_of_le hgr hb3.size
        clear ho3 hb3 HTR hgr
        simp only
        rw [HNN.out]
        go_wp2_with fail
        refine (take_yes A3 (T.drop 2) 510 c3 4 w3 HO3.out.len hc3 (by omega) HO3.out.bat (by omega) (by omega) (by omega)).mono ?_
        rintro e w4 ⟨A4, N4, c4, rfl, ho4, hb4⟩
        obtain rfl : N4 = 506 := by have := ho4.len; rw [List.length_drop, List.length_drop, HTL.out] at this; omega
        have hc4 := ho4.cap_le.1
        have HO4 : Hid (Own w4 w3.heap.size 5 A4 506 c4 (T.drop 6)) := Lib.hid (by have := ho4; rw [List.drop_drop] at this; exact this)
        have HB4 := Lib.hid (HB3.out.trans (hb4.mono HB3.out.size))
        have HT4 := Lib.hid (HT3.out.below hb4 hg3)
        clear ho4 hb4 HT3 hg3 HO3
        simp only
        rw [HS.out]
        by_cases h500 : nn ≤ 500
        · have hn5 : ¬ (500 : Int) < (nn : Int) := by omega
          have hcut := run_cut_h 38 5 Pl.byteTy A4 506 c4 .u64 (nn : Int) nn rfl (by omega)
          have hS1 : IntKind.u32.wrap (S : Int) = (S : Int) := by rw [IntKind.wrap_u32]; omega
          have HBD : Hid (((T.drop 6).take nn).length = nn) := Lib.hid (by rw [List.length_take, List.length_drop, HTL.out]; omega)
          have HSU := Lib.hid (sum_any A4 ((T.drop 6).take nn) nn c4 w4 HBD.out (by omega) (HO4.out.bat.take nn) HT4.out)
          by_cases hsum : (more 0#32 ((T.drop 6).take nn)).toNat = S
          · have HYES : Hid (readPg (virt H ws) page = some ((T.drop 6).take nn)) := Lib.hid (by rw [HRP.out, HRQ.out, if_pos ⟨h500, hsum⟩])
            have hne : (U (more 0#32 ((T.drop 6).take nn)) == (S : Int)) = true := by unfold U; rw [hsum]; simp
            clear hsum h500
            go_wp2_with fail
            refine HSU.out.mono ?_
            rintro e _ ⟨rfl, rfl⟩
            have hsz4 := HB4.out.size
            go_wp2_with
              (refine wpList_append_bytes rfl (.tmp 69) (.tmp 72) _ rfl w.heap.size _ Pl.byteTy _ 0 0 [] rfl (Own.new w4 _ _ rfl hsz4 (by rfl) rfl (by decide)) A4 nn c4 _ rfl ((HO4.out.bat.take nn).below (below_al' _)) HBD.out nn (by omega) (by omega) (by simp; omega) ?_
               intro A5 c5 w5 ho5 hg5 hb5 _
               have HO5 := Lib.hid ho5
               have HC5 := Lib.hid ((HB4.out.trans ((below_al' _).mono hsz4)).trans hb5)
               clear ho5 hg5 hb5)
            go_ret2
            exact ⟨HC5.out, .inr (.inr ⟨_, _, _, _, HUF.out, HYES.out, rfl, HO5.out⟩)⟩
          · have HNO : Hid (readPg (virt H ws) page = none) := Lib.hid (by rw [HRP.out, HRQ.out, if_neg fun h => hsum h.2])
            have hne : (U (more 0#32 ((T.drop 6).take nn)) == (S : Int)) = false := beq_eq_false_iff_ne.2 (by unfold U; omega)
            clear hsum h500
            go_wp2_with fail
            refine HSU.out.mono ?_
            rintro e _ ⟨rfl, rfl⟩
            go_wp2_with fail
            go_ret2
            exact ⟨HB4.out, .inr (.inl ⟨HUF.out, HNO.out, rfl⟩)⟩
        · have hn5 : (500 : Int) < (nn : Int) := by omega
          have HNO : Hid (readPg (virt H ws) page = none) := Lib.hid (by rw [HRP.out, HRQ.out, if_neg fun h => h500 h.1])
          clear h500
          go_wp2_with fail
          go_ret2
          exact ⟨HB4.out, .inr (.inl ⟨HUF.out, HNO.out, rfl⟩)⟩
end Go.Proofs.YtookhagpgkefpaaDoor.Pag
