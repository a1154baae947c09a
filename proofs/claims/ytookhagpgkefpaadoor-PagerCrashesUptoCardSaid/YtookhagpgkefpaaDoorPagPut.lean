/- The pager's 'Put'. -/
import Derived.Test.YtookhagpgkefpaaDoorFold12
namespace Go.Proofs.YtookhagpgkefpaaDoor.Pag
open Go Go.RowKit Mem Pl Disk Crc _root_.Go.Proofs.YtookhagpgkefpaaDoor.Frame
/-- A plant, a disk and a pager on it within a law. -/
structure PgSt (B : Nat) (w : World) (F : Nat → Prop) (a : Nat) (pm : PM) (n dev N : Nat) (H : List (List UInt8)) (ws : Ws) (g : Nat) (m : PgM) : Prop where
  st : St B w F a pm n
  disk : Disk pm dev N H ws
  pg : PgB w g a dev m
  lt : B ≤ g
  apart : ¬ F g
  n384 : m.pages ≤ 384
  fit : 2 + 8 * m.pages ≤ N
/-- What 'Put' leaves. -/
def PutP (B : Nat) (w : World) (F : Nat → Prop) (a : Nat) (pm : PM) (n dev N : Nat) (H : List (List UInt8)) (ws : Ws) (g : Nat) (m : PgM) (bs : List UInt8) (e : Ending) (w' : World) : Prop :=
  (500 < bs.length ∧ e = .returned (.tuple #[.int .i64 0, .int .i64 5]) ∧ Below w.heap.size w w') ∨
  (bs.length ≤ 500 ∧ (∀ k, k < m.pages → m.free k = false) ∧ e = .returned (.tuple #[.int .i64 0, .int .i64 3]) ∧ Below w.heap.size w w') ∨
  ∃ page, bs.length ≤ 500 ∧ page < m.pages ∧ m.free page = true ∧ (∀ k, k < page → m.free k = false) ∧ ∃ (F' : Nat → Prop) (pm' : PM), (∀ k, F' k → F k ∨ w.heap.size ≤ k) ∧ Mods w.heap.size (fun k => F k ∨ k = g) w w' ∧
    ((e = .returned (.tuple #[.int .i64 (page : Int), .int .i64 0]) ∧ pm'.off = false ∧ (pm.fuse = none → pm'.fuse = none) ∧ PgSt B w' F' a pm' (n + 8) dev N H (ws ++ wsM (2 + page * 8) (pageM bs) 8) g { m with use := setB m.use page true }) ∨
     (e = .returned (.tuple #[.int .i64 0, .int .i64 2]) ∧ pm'.off = true ∧ pm.fuse ≠ none ∧ ∃ i, i ≤ 8 ∧ PgSt B w' F' a pm' (n + 8) dev N H (ws ++ wsM (2 + page * 8) (pageM bs) i) g m))
def PutR1 (w : World) (m : PgM) (iv : Value) (wr : World) : Prop := ∃ i : Nat, i ≤ m.pages ∧ iv = .int .i64 (i : Int) ∧ (∀ k, k < i → m.free k = false) ∧ wr = w
def PutR2 (B : Nat) (w4 : World) (F : Nat → Prop) (a dev : Nat) (pm : PM) (n N : Nat) (H : List (List UInt8)) (ws : Ws) (page : Nat) (bs : List UInt8) (iv : Value) (wr : World) : Prop :=
  ∃ (i : Nat) (F' : Nat → Prop) (pm' : PM), i ≤ 8 ∧ iv = .int .i64 (i : Int) ∧ St B wr F' a pm' (n + i) ∧ Disk pm' dev N H (ws ++ wsM (2 + page * 8) (pageM bs) i) ∧ pm'.off = false ∧ (pm.fuse = none → pm'.fuse = none) ∧
    (∀ k, F' k → F k ∨ w4.heap.size ≤ k) ∧ Mods w4.heap.size F w4 wr
theorem put_mods {w4 wr w5 w7 : World} {F F' : Nat → Prop} (hm : Mods w4.heap.size F w4 wr) (hb : Below wr.heap.size wr w5) (h7 : Mods w5.drew.heap.size F' w5.drew w7) (hF : ∀ k, F' k → F k ∨ w4.heap.size ≤ k) : Mods w4.heap.size F w4 w7 :=
  ((hm.then_below hb hm.size).drew).trans (h7.mono (Nat.le_trans hm.size hb.size) fun k hk hf => (hF k hf).elim id fun h => by omega)
theorem put_grow {w4 w5 w7 : World} {F F' : Nat → Prop} (hF : ∀ k, F' k → F k ∨ w4.heap.size ≤ k) (h5 : w4.heap.size ≤ w5.heap.size) : ∀ k, Grow F' w5 w7 k → F k ∨ w4.heap.size ≤ k := fun k hk => by
  rcases hk with hk | hk
  · exact hF k hk
  · exact .inr (by have := hk.1; omega)
theorem put_fail {B : Nat} {w w4 w7 : World} {F F7 : Nat → Prop} {a : Nat} {pm pm7 : PM} {n n7 dev N : Nat} {H : List (List UInt8)} {ws vs : Ws} {g : Nat} {m : PgM} (x : PgSt B w F a pm n dev N H ws g m) (hw : Below w.heap.size w w4) (hF : ∀ k, F7 k → F k ∨ w4.heap.size ≤ k) (hm : Mods w4.heap.size F w4 w7)
    (hst : St B w7 F7 a pm7 n7) {n8 : Nat} (hn : n7 ≤ n8) (hd : Disk pm7 dev N H vs) : (∀ k, F7 k → F k ∨ w.heap.size ≤ k) ∧ Mods w.heap.size (fun k => F k ∨ k = g) w w7 ∧ PgSt B w7 F7 a pm7 n8 dev N H vs g m := by
  have hlt := x.pg.lt
  have hs := hw.size
  refine ⟨fun k hk => (hF k hk).imp id fun h => Nat.le_trans hs h, (Mods.of_below hw).trans (hm.mono hs fun k _ hf => .inl hf), st_more hst hn, hd, (x.pg.below hw).mods hm (by omega) x.apart, x.lt, fun hf => ?_, x.n384, x.fit⟩
  rcases hF g hf with h | h
  · exact x.apart h
  · omega
theorem put_done {B : Nat} {w w7 w8 : World} {F F7 : Nat → Prop} {a : Nat} {pm7 : PM} {n dev N : Nat} {H : List (List UInt8)} {ws : Ws} {g : Nat} {m : PgM} {use : List UInt8} (x : PgSt B w7 F7 a pm7 n dev N H ws g m) (hw : w.heap.size ≤ w7.heap.size) (hm : Mods w.heap.size (fun k => F k ∨ k = g) w w7)
    (hp : PgB w8 g a dev { m with use := use }) (h8 : Mods w7.heap.size (fun k => k = g) w7 w8) : Mods w.heap.size (fun k => F k ∨ k = g) w w8 ∧ PgSt B w8 F7 a pm7 n dev N H ws g { m with use := use } := by
  refine ⟨hm.trans (h8.mono hw fun k _ hk => .inr hk), ⟨?_, x.disk, hp, x.lt, x.apart, x.n384, x.fit⟩⟩
  exact ⟨x.st.at_.mods h8 fun k hk hF => ⟨hk, fun e => x.apart (by rw [← e]; exact hF)⟩, x.st.ok, fun k hk => ⟨(x.st.lt k hk).1, Nat.lt_of_lt_of_le (x.st.lt k hk).2 h8.size⟩, x.st.steps, x.st.waits⟩
theorem put_own {w w4 wr : World} {F : Nat → Prop} {A : Option Addr} {n c : Nat} {bs : List UInt8} (h : Own w4 w.heap.size 5 A n c bs) (hm : Mods w4.heap.size F w4 wr) (hF : ∀ k, F k → k < w.heap.size) : Own wr w.heap.size 5 A n c bs := by
  refine ⟨h.1, ?_⟩
  rcases h.2 with h1 | ⟨g, cap, cur, h1, h2, hh, h3⟩
  · exact .inl h1
  · refine .inr ⟨g, cap, cur, h1, h2, ?_, h3⟩
    have hlt : g < w4.heap.size := (Array.getElem?_eq_some_iff.1 hh).1
    exact hm.heap hlt (fun hf => by have := hF g hf; omega) hh
theorem put_nil {w : World} {base : Nat} {A : Option Addr} {n c l : Nat} {bs : List UInt8} (h : Own w base 5 A n c bs) : cutA A c l = none → c - l = 0 := fun h0 => by
  rcases h.form with ⟨_, _, h1⟩ | ⟨g, h1, _⟩
  · omega
  · unfold cutA at h0
    rw [h1] at h0
    split at h0 <;> cases h0
set_option maxRecDepth 100000 in
set_option maxHeartbeats 8000000 in
theorem put_any {B : Nat} {w : World} {F : Nat → Prop} {a : Nat} {pm : PM} {n dev N : Nat} {H : List (List UInt8)} {ws : Ws} {g : Nat} {m : PgM} (x : PgSt B w F a pm n dev N H ws g m) (hB : B ≤ w.heap.size) (hn : n ≤ 900000000) (hon : pm.off = false) (ht : Tab w) (hgc : 0 < w.heap.size)
    (A : Option Addr) (L cap : Nat) (bs : List UInt8) (hb : BAt w A bs) (hl : bs.length = L) (hLm : L ≤ 9223372036854775807) :
    Calls Tryd.prog 14 #[.pointer (some ⟨g, 0, none⟩), .slice A L cap] w (PutP B w F a pm n dev N H ws g m bs) := by
  have HP := Lib.hid x
  have HON := Lib.hid hon
  have HT := Lib.hid ht
  have HB := Lib.hid hb
  have HL := Lib.hid hl
  have c2 := x.pg.c2
  have hN4 := (x.disk.size x.st.ok).2
  have h384 := x.n384
  have hfit := x.fit
  clear x hon ht hb hl
  by_cases h500 : 500 < L
  · have hLI : (500 : Int) < (L : Int) := by omega
    go_enter Tryd.func14, Tryd.ntmps14
    go_wp2_with fail
    go_ret2
    exact .inl ⟨by rw [HL.out]; exact h500, rfl, Below.refl _ _⟩
  · have hLI : ¬ (500 : Int) < (L : Int) := by omega
    have hL5 : L ≤ 500 := by omega
    have hmk := run_make64
    clear h500
    go_enter Tryd.func14, Tryd.ntmps14
    go_wp2_with fail
    go_loopw [6] (fun iv wr => PutR1 w m iv wr) (fun iv _ => m.pages - (intOf iv).toNat)
    case atStart => exact ⟨0, by omega, rfl, fun k hk => by omega, rfl⟩
    case round =>
      obtain ⟨page, hi, rfl, hfst, rfl⟩ := hrel
      have HFST := Lib.hid hfst
      clear hfst
      by_cases hlt : page < m.pages
      · have hiI : (page : Int) < (m.pages : Int) := by omega
        have hfr := free_any HP.out.pg page (by omega)
        cases hf : m.free page with
        | false =>
          rw [hf] at hfr
          have HFR := Lib.hid hfr
          have HNF := Lib.hid hf
          clear hfr hf
          go_wp2_with fail
          refine HFR.out.mono ?_
          rintro e _ ⟨rfl, rfl⟩
          go_wp2_with fail
          go_roundw
          case rel =>
            refine ⟨page + 1, by omega, by simp, fun k hk => ?_, rfl⟩
            rcases Nat.lt_or_ge k page with h | h
            · exact HFST.out k h
            · obtain rfl : k = page := by omega
              exact HNF.out
          case measure => simp [intOf]; omega
        | true =>
          rw [hf] at hfr
          have HFR := Lib.hid hfr
          have HFREE := Lib.hid hf
          clear hfr hf
          have hne : ((page : Int) == (m.pages : Int)) = false := beq_eq_false_iff_ne.2 (by omega)
          go_wp2_with fail
          refine HFR.out.mono ?_
          rintro e _ ⟨rfl, rfl⟩
          go_wp2_with fail
          refine (number_yes none [] 0 0 L 2 wr rfl (by omega) (BAt.nil_ _ _) (by omega) (by omega) (by omega)).mono ?_
          rintro e w2 ⟨A2, N2, c2', rfl, ho, hbw⟩
          obtain rfl : N2 = 2 := by rw [← ho.len]; simp [beB_length]
          have HO2 := Lib.hid ho
          have HW2 := Lib.hid hbw
          have HT2 := Lib.hid (HT.out.below hbw hgc)
          clear ho hbw
          go_wp2_with fail
          refine (sum_any A bs L cap w2 HL.out (by omega) (HB.out.below HW2.out) HT2.out).mono ?_
          rintro e _ ⟨rfl, rfl⟩
          have hu : U (more 0#32 bs) = (((more 0#32 bs).toNat : Nat) : Int) := rfl
          rw [hu]
          have hsl : (more 0#32 bs).toNat < 4294967296 := (more 0#32 bs).isLt
          have hpk : pageH bs = [] ++ beB L 2 ++ beB (more 0#32 bs).toNat 4 ++ bs := by unfold pageH; rw [HL.out]; rfl
          clear hu
          generalize (more 0#32 bs).toNat = s at *
          have HPK := Lib.hid hpk
          clear hpk
          go_wp2_with fail
          refine (number_yes A2 ([] ++ beB L 2) 2 c2' s 4 w2 HO2.out.len (by omega) HO2.out.bat (by omega) (by omega) (by omega)).mono ?_
          rintro e w3 ⟨A3, N3, c3, rfl, ho, hbw⟩
          obtain rfl : N3 = 6 := by rw [← ho.len]; simp [beB_length]
          have HO3 := Lib.hid (ho.mono HW2.out.size)
          have HW3 := Lib.hid (HW2.out.trans (hbw.mono HW2.out.size))
          clear ho hbw HO2 HT2
          go_wp2_with
            (refine wpList_append_bytes rfl (.tmp 43) (.tmp 44) _ rfl wr.heap.size _ Pl.byteTy A3 6 c3 _ rfl HO3.out A L cap bs rfl (HB.out.below HW3.out) HL.out (6 + L) rfl (by omega) HW3.out.size ?_
             intro A4 c4 w4 ho4 hg4 hb4 hA4
             have HO4' := Lib.hid ho4
             have HW4 := Lib.hid (HW3.out.trans hb4)
             clear ho4 hg4 hb4 hA4)
          have HO4 : Hid (Own w4 wr.heap.size 5 A4 (6 + L) c4 (pageH bs)) := Lib.hid (by rw [HPK.out]; exact HO4'.out)
          have HST4 := Lib.hid (HP.out.st.below HW4.out)
          have hcc := HO4.out.cap_le
          clear HO4' HO3 HPK c2 hsl
          obtain ⟨w1, rfl⟩ : ∃ w1, w1 = wr := ⟨_, rfl⟩
          obtain ⟨A, rfl⟩ : ∃ x, x = A4 := ⟨_, rfl⟩
          obtain ⟨cap, rfl⟩ : ∃ x, x = c4 := ⟨_, rfl⟩
          go_loopw [46] (fun iv wr => PutR2 B w4 F a dev pm n N H ws page bs iv wr) (fun iv _ => 8 - (intOf iv).toNat)
          case atStart => exact ⟨0, F, pm, by omega, rfl, HST4.out, by have := HP.out.disk; unfold wsM; simpa using this, HON.out, fun h => h, fun k hk => .inl hk, Mods.refl _ _ _⟩
          case round =>
            obtain ⟨i, F', pm', hi, rfl, hst, hdk, hon, hfu, hF', hmo⟩ := hrel
            have HSTR := Lib.hid hst
            have HDK := Lib.hid hdk
            have HONR := Lib.hid hon
            have HFU := Lib.hid hfu
            have HF' := Lib.hid hF'
            have HMO := Lib.hid hmo
            have hs1 := HW4.out.size
            have hs4 := hmo.size
            have HXR := Lib.hid ((HP.out.pg.below HW4.out).mods hmo (Nat.lt_of_lt_of_le HP.out.pg.lt hs1) HP.out.apart)
            have HAR := Lib.hid (put_own HO4.out hmo fun k hk => (HP.out.st.lt k hk).2)
            clear hst hdk hon hfu hF' hmo
            by_cases hlt : i < 8
            · have hiI : (i : Int) < 8 := by omega
              have hwa : IntKind.i64.wrap ((page : Int) * 8) = (page : Int) * 8 := IntWalk.i64_in _ (by omega)
              have hwb : IntKind.i64.wrap (2 + (page : Int) * 8) = 2 + (page : Int) * 8 := IntWalk.i64_in _ (by omega)
              have hwc : IntKind.i64.wrap (2 + (page : Int) * 8 + (i : Int)) = 2 + (page : Int) * 8 + (i : Int) := IntWalk.i64_in _ (by omega)
              have hwd : IntKind.i64.wrap ((i : Int) * 64) = (i : Int) * 64 := IntWalk.i64_in _ (by omega)
              have HKZ : Hid (Blk (wr.alloc (.cells (zeros.map B8).toArray 5)) wr.heap.size 5 (cellsOf zeros)) := Lib.hid (Blk.new wr 5 (cellsOf zeros))
              by_cases hin : 64 * i < 6 + L
              · have hinI : (i : Int) * 64 < 6 + (L : Int) := by omega
                have hcut := run_cut_l 38 5 Pl.byteTy A (6 + L) cap .i64 ((i : Int) * 64) (64 * i) (by omega) (by omega)
                have HCB : Hid (BAt (wr.alloc (.cells (zeros.map B8).toArray 5)) (cutA A cap (64 * i)) ((pageH bs).drop (64 * i))) := Lib.hid ((HAR.out.below (below_al' _)).bat.cut cap (64 * i) (by rw [HAR.out.len]; omega))
                have HCL : Hid (((pageH bs).drop (64 * i)).length = 6 + L - 64 * i) := Lib.hid (by rw [List.length_drop, pageH_len, HL.out])
                have HCN : Hid (cutA A cap (64 * i) = none → cap - 64 * i = 0) := Lib.hid (put_nil HAR.out)
                go_wp2_with
                  (refine wpList_copy_bytes rfl (.tmp 56) (.tmp 59) _ rfl _ Pl.byteTy wr.heap.size 0 64 64 _ zeros rfl HKZ.out (cutA A cap (64 * i)) (6 + L - 64 * i) (cap - 64 * i) ((pageH bs).drop (64 * i)) rfl HCB.out HCL.out (min (6 + L - 64 * i) 64) (by rfl) (by rw [zeros_len]; omega) HCN.out ?_
                   intro w5 hk5 hg5 hz5
                   have HK5' := Lib.hid hk5
                   have HB5 := Lib.hid (fit_alloc hg5)
                   have hc05 := (HXR.out.below HB5.out).c0
                   have hc15 := (HXR.out.below HB5.out).c1
                   clear hk5 hg5 hz5)
                have HK5 : Hid (Blk w5 wr.heap.size 5 (cellsOf (chunkM (pageM bs) i))) := Lib.hid (by have := HK5'.out; rw [← HL.out, chunk_page (by rw [HL.out]; exact hL5) hlt (by rw [HL.out]; omega)] at this; exact this)
                clear HK5'
                have HCK : Hid ((chunkM (pageM bs) i).length = 64) := Lib.hid (chunk_len (m := 8) (by rw [pageM_len (by rw [HL.out]; exact hL5)]) hlt)
                have hs5 := HB5.out.size
                have HST5 := Lib.hid (HSTR.out.below HB5.out)
                have HDKC := Lib.hid (HDK.out.write_cases HONR.out (show 2 + page * 8 + i < N by omega) HCK.out)
                have HWR := Lib.hid ((HST5.out.below (below_drewN (Below.refl _ w5) 1)).write (show B ≤ w5.drew.heap.size from by show B ≤ w5.heap.size; omega) (by omega) (dev : Int) ((2 + page * 8 + i : Nat) : Int) (some ⟨wr.heap.size, 0, none⟩) 64 64 (chunkM (pageM bs) i) (show BAt w5.drew _ _ from HK5.out.bat) HCK.out)
                rw [show ((2 + page * 8 + i : Nat) : Int) = 2 + (page : Int) * 8 + (i : Int) by omega] at HWR HDKC
                refine Ord.region_ordM [] [9, 10, 12] [0, 1, 2, 3, 4, 5, 6, 7, 8, 9, 10, 11, 12, 13, 14, 15] (by kernel_rfl) (by kernel_rfl) (by kernel_rfl) (by kernel_rfl) (Ord.ord_run [0, 1, 2, 3, 4, 5, 6, 7, 8] [_, _, _, _, _, _, _, _, _] rfl (by kernel_rfl) ?_)
                go_wp2_with fail
                refine Ord.nx_ord (Ord.ord_pure (.int .i64 ((page : Int) * 8)) rfl (by kernel_rfl) (by rfl) (fun w' => by first | (go_simp; done) | (go_simp; exact hwa)) ?_)
                simp only [Act.put, List.setIfInBounds_toArray]
                refine Ord.ord_pure (.int .i64 (2 + (page : Int) * 8)) rfl (by kernel_rfl) (by rfl) (fun w' => by first | (go_simp; done) | (go_simp; exact hwb)) ?_
                simp only [Act.put]
                refine Ord.ord_run [11] [_] rfl (by kernel_rfl) ?_
                go_wp2_with fail
                refine Ord.nx_ord (Ord.ord_pure (.int .i64 (2 + (page : Int) * 8 + (i : Int))) rfl (by kernel_rfl) (by rfl) (fun w' => by first | (go_simp; done) | (go_simp; exact hwc)) ?_)
                simp only [Act.put]
                refine Ord.ord_all [_, _, _] rfl (by kernel_rfl) ?_
                go_wp2_with fail
                refine HWR.out.mono ?_
                rintro e w7 ⟨rfl, hst7, hm7⟩
                have HMO7 : Hid (Mods w4.heap.size F w4 w7) := Lib.hid (put_mods HMO.out HB5.out hm7 HF'.out)
                have HF7 : Hid (∀ k, Grow F' w5.drew w7 k → F k ∨ w4.heap.size ≤ k) := Lib.hid (put_grow HF'.out (show w4.heap.size ≤ w5.drew.heap.size from by show w4.heap.size ≤ w5.heap.size; omega))
                rcases HDKC.out with ⟨he, hd7, hon7, hfu7⟩ | ⟨hfz, he, hd7, hoff7⟩
                · rw [he]
                  have HST7 := Lib.hid hst7
                  have HD7 := Lib.hid (by rw [List.append_assoc, wsM_next] at hd7; exact hd7)
                  have HON7 := Lib.hid hon7
                  have HFU7 := Lib.hid hfu7
                  clear he hst7 hm7 hd7 hon7 hfu7 hc05 hc15
                  go_wp2_with fail
                  refine Ord.nx_end ?_
                  go_wp2_with fail
                  go_roundw
                  case rel => exact ⟨i + 1, _, _, by omega, by simp, HST7.out, HD7.out, HON7.out, fun h => HFU7.out (HFU.out h), HF7.out, HMO7.out⟩
                  case measure => simp [intOf]; omega
                · rw [he]
                  have HST7 := Lib.hid hst7
                  have HD7 := Lib.hid hd7
                  have HOFF7 := Lib.hid hoff7
                  have HFZ := Lib.hid hfz
                  clear he hst7 hm7 hd7 hoff7 hfz hc05 hc15
                  go_wp2_with fail
                  refine Ord.nx_end ?_
                  go_wp2_with fail
                  go_ret2
                  obtain ⟨h1, h2, h3⟩ := put_fail HP.out HW4.out HF7.out HMO7.out HST7.out (show n + i + 1 ≤ n + 8 by omega) HD7.out
                  refine .inr (.inr ⟨page, by rw [HL.out]; exact hL5, by omega, HFREE.out, HFST.out, _, _, h1, h2, .inr ⟨rfl, HOFF7.out, fun e => ?_, i, by omega, h3⟩⟩)
                  have := HFU.out e
                  rw [HFZ.out] at this
                  cases this
              · have hinI : ¬ (i : Int) * 64 < 6 + (L : Int) := by omega
                have HB5 : Hid (Below wr.heap.size wr (wr.alloc (.cells (zeros.map B8).toArray 5))) := Lib.hid (below_al' _)
                have HK5 : Hid (Blk (wr.alloc (.cells (zeros.map B8).toArray 5)) wr.heap.size 5 (cellsOf (chunkM (pageM bs) i))) := Lib.hid (by rw [← chunk_past (by rw [HL.out]; exact hL5) hlt (by rw [HL.out]; omega)]; exact HKZ.out)
                have hc05 := (HXR.out.below HB5.out).c0
                have hc15 := (HXR.out.below HB5.out).c1
                go_wp2_with fail
                generalize wr.alloc (.cells (zeros.map B8).toArray 5) = w5 at *
                have HCK : Hid ((chunkM (pageM bs) i).length = 64) := Lib.hid (chunk_len (m := 8) (by rw [pageM_len (by rw [HL.out]; exact hL5)]) hlt)
                have hs5 := HB5.out.size
                have HST5 := Lib.hid (HSTR.out.below HB5.out)
                have HDKC := Lib.hid (HDK.out.write_cases HONR.out (show 2 + page * 8 + i < N by omega) HCK.out)
                have HWR := Lib.hid ((HST5.out.below (below_drewN (Below.refl _ w5) 1)).write (show B ≤ w5.drew.heap.size from by show B ≤ w5.heap.size; omega) (by omega) (dev : Int) ((2 + page * 8 + i : Nat) : Int) (some ⟨wr.heap.size, 0, none⟩) 64 64 (chunkM (pageM bs) i) (show BAt w5.drew _ _ from HK5.out.bat) HCK.out)
                rw [show ((2 + page * 8 + i : Nat) : Int) = 2 + (page : Int) * 8 + (i : Int) by omega] at HWR HDKC
                refine Ord.region_ordM [] [9, 10, 12] [0, 1, 2, 3, 4, 5, 6, 7, 8, 9, 10, 11, 12, 13, 14, 15] (by kernel_rfl) (by kernel_rfl) (by kernel_rfl) (by kernel_rfl) (Ord.ord_run [0, 1, 2, 3, 4, 5, 6, 7, 8] [_, _, _, _, _, _, _, _, _] rfl (by kernel_rfl) ?_)
                go_wp2_with fail
                refine Ord.nx_ord (Ord.ord_pure (.int .i64 ((page : Int) * 8)) rfl (by kernel_rfl) (by rfl) (fun w' => by first | (go_simp; done) | (go_simp; exact hwa)) ?_)
                simp only [Act.put, List.setIfInBounds_toArray]
                refine Ord.ord_pure (.int .i64 (2 + (page : Int) * 8)) rfl (by kernel_rfl) (by rfl) (fun w' => by first | (go_simp; done) | (go_simp; exact hwb)) ?_
                simp only [Act.put]
                refine Ord.ord_run [11] [_] rfl (by kernel_rfl) ?_
                go_wp2_with fail
                refine Ord.nx_ord (Ord.ord_pure (.int .i64 (2 + (page : Int) * 8 + (i : Int))) rfl (by kernel_rfl) (by rfl) (fun w' => by first | (go_simp; done) | (go_simp; exact hwc)) ?_)
                simp only [Act.put]
                refine Ord.ord_all [_, _, _] rfl (by kernel_rfl) ?_
                go_wp2_with fail
                refine HWR.out.mono ?_
                rintro e w7 ⟨rfl, hst7, hm7⟩
                have HMO7 : Hid (Mods w4.heap.size F w4 w7) := Lib.hid (put_mods HMO.out HB5.out hm7 HF'.out)
                have HF7 : Hid (∀ k, Grow F' w5.drew w7 k → F k ∨ w4.heap.size ≤ k) := Lib.hid (put_grow HF'.out (show w4.heap.size ≤ w5.drew.heap.size from by show w4.heap.size ≤ w5.heap.size; omega))
                rcases HDKC.out with ⟨he, hd7, hon7, hfu7⟩ | ⟨hfz, he, hd7, hoff7⟩
                · rw [he]
                  have HST7 := Lib.hid hst7
                  have HD7 := Lib.hid (by rw [List.append_assoc, wsM_next] at hd7; exact hd7)
                  have HON7 := Lib.hid hon7
                  have HFU7 := Lib.hid hfu7
                  clear he hst7 hm7 hd7 hon7 hfu7 hc05 hc15
                  go_wp2_with fail
                  refine Ord.nx_end ?_
                  go_wp2_with fail
                  go_roundw
                  case rel => exact ⟨i + 1, _, _, by omega, by simp, HST7.out, HD7.out, HON7.out, fun h => HFU7.out (HFU.out h), HF7.out, HMO7.out⟩
                  case measure => simp [intOf]; omega
                · rw [he]
                  have HST7 := Lib.hid hst7
                  have HD7 := Lib.hid hd7
                  have HOFF7 := Lib.hid hoff7
                  have HFZ := Lib.hid hfz
                  clear he hst7 hm7 hd7 hoff7 hfz hc05 hc15
                  go_wp2_with fail
                  refine Ord.nx_end ?_
                  go_wp2_with fail
                  go_ret2
                  obtain ⟨h1, h2, h3⟩ := put_fail HP.out HW4.out HF7.out HMO7.out HST7.out (show n + i + 1 ≤ n + 8 by omega) HD7.out
                  refine .inr (.inr ⟨page, by rw [HL.out]; exact hL5, by omega, HFREE.out, HFST.out, _, _, h1, h2, .inr ⟨rfl, HOFF7.out, fun e => ?_, i, by omega, h3⟩⟩)
                  have := HFU.out e
                  rw [HFZ.out] at this
                  cases this
            · obtain rfl : i = 8 := by omega
              have HSET := Lib.hid (set_any HXR.out page (by omega) true)
              go_wp2_with fail
              refine HSET.out.mono ?_
              rintro e w8 ⟨rfl, hp8, hm8⟩
              have HP8 := Lib.hid hp8
              have HM8 := Lib.hid hm8
              clear hp8 hm8
              go_wp2_with fail
              go_ret2
              obtain ⟨h1, h2, h3⟩ := put_fail HP.out HW4.out HF'.out HMO.out HSTR.out (Nat.le_refl (n + 8)) HDK.out
              obtain ⟨h4, h5⟩ := put_done h3 h2.size h2 HP8.out HM8.out
              exact .inr (.inr ⟨page, by rw [HL.out]; exact hL5, by omega, HFREE.out, HFST.out, _, _, h1, h4, .inl ⟨rfl, HONR.out, HFU.out, h5⟩⟩)
      · obtain rfl : m.pages = page := by omega
        have hiI : ¬ (m.pages : Int) < (m.pages : Int) := by omega
        go_wp2_with fail
        go_ret2
        exact .inr (.inl ⟨by rw [HL.out]; exact hL5, HFST.out, rfl, Below.refl _ _⟩)
end Go.Proofs.YtookhagpgkefpaaDoor.Pag
