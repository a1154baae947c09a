/- The walk of the reference's 'Decode'. -/
import Derived.Test.YtomncfiklkhfjaaRecRefDec
namespace Go.Proofs.Ytomncfiklkhfjaa.Rec
open Go.RowKit Mem Crc _root_.Go.Proofs.Ytomncfiklkhfjaa.Frame
attribute [local go_sem] S8_size
attribute [local go_sem ↓] Go.wp_at_zero Go.wp_at_succ
set_option maxRecDepth 100000 in
set_option maxHeartbeats 4000000 in
theorem refDecode_any (A : Option Addr) (bs : List UInt8) (m cap : Nat) (w : World) (hb : BAt w A bs) (hm : bs.length = m) (hc : m ≤ cap) (hcap : m ≤ 140737488355328) :
    Calls Try.prog 21 #[.slice A m cap] w (RetD w (decodeM bs)) := by
  have HB := Lib.hid hb
  have HM := Lib.hid hm
  clear hb hm
  have HG := Lib.hid (Blk.new w 26 (zeroR.cells none 0).toArray)
  by_cases h1 : 1 ≤ m
  · obtain ⟨ad, rfl, _⟩ := HB.out (by have := HM.out; omega)
    have hn8 := (bs.getD 0 0).toNat_lt
    have hc0 : ∀ o, (w.alloc o).cell? ad = some (.int .u8 ((bs.getD 0 0).toNat : Int)) := fun o => by
      obtain ⟨ad', e, hc⟩ := (HB.out.below (below_al' o)) (by have := HM.out; omega)
      injection e with e; subst e
      have := hc 0 (by have := HM.out; omega)
      rw [addr_zero] at this
      rw [this]; rfl
    have hlt1 : ¬ (m : Int) < 1 := by omega
    have HDM := Lib.hid (show decodeM bs = restM ((bs.drop 1).take (bs.getD 0 0).toNat) (bs.drop (1 + (bs.getD 0 0).toNat)) from rfl)
    have hrl : (bs.drop (1 + (bs.getD 0 0).toNat)).length = m - (1 + (bs.getD 0 0).toNat) := by rw [List.length_drop, HM.out]
    generalize (bs.getD 0 0).toNat = n at *
    by_cases h2 : 1 + n + 46 ≤ m
    · have hlt2 : ¬ (m : Int) < 1 + (n : Int) + 46 := by omega
      have hrestb : BAt w (cutA (some ad) cap (1 + n)) (bs.drop (1 + n)) := HB.out.cut cap (1 + n) (by have := HM.out; omega)
      have hidb : BAt w (cutA (some ad) cap 1) ((bs.drop 1).take n) := (HB.out.cut cap 1 (by have := HM.out; omega)).take n
      have hidn : ((bs.drop 1).take n).length = n := List.length_take_of_le (by rw [List.length_drop, HM.out]; omega)
      have hcut : ∀ W : World, (Instr.sliceAt 28 (.slice (some ad) m cap) (some (.int .i64 1)) (some (.int .i64 (1 + (n : Int)))) none).run Try.prog W = .ok (.slice (cutA (some ad) cap 1) n (cap - 1)) W := fun W => by
        have := run_cut_lh (P := Try.prog) 28 5 byteTy (some ad) m cap .i64 .i64 1 (1 + (n : Int)) 1 (1 + n) rfl (by omega) (by omega) (by omega) W
        rwa [Nat.add_sub_cancel_left] at this
      have hcut2 := fun (W : World) => run_cut_l (P := Try.prog) 28 5 byteTy (some ad) m cap .i64 (1 + (n : Int)) (1 + n) (by omega) (by omega) W
      generalize hid : (bs.drop 1).take n = id at *
      have hconv := fun o => run_toString (P := Try.prog) (w := w.alloc o) (ts := 9) (n := n) byteTy strTy (cap - 1) (hidb.below (below_al' o)) hidn
      rw [show ByteArray.mk id.toArray = S8 id from rfl] at hconv
      generalize bs.drop (1 + n) = rest at *
      have hq : 46 ≤ m - (1 + n) := by omega
      have hqc : m - (1 + n) ≤ cap - (1 + n) := by omega
      generalize m - (1 + n) = q at *
      generalize cap - (1 + n) = cq at *
      obtain ⟨a1, ha1, _⟩ := hrestb (by omega)
      rw [ha1] at hrestb hcut2
      clear ha1
      have HRB := Lib.hid hrestb
      have HRL := Lib.hid hrl
      have HIDN := Lib.hid hidn
      clear hrestb hidb hrl hid hidn
      go_enter Try.func21, Try.ntmps21
      go_wp2_with
        (refine wpList_store_whole rfl 26 (.tmp 5) (.tmp 35) rfl (w.heap.size + 1) 26 (zeroR.cells none 0) (({ zeroR with id := id } : R).cells none 0) rfl rfl (Blk.new_at _ _ (by simp) _ _) rfl (by rw [R.size_]; kernel_rfl) (rec_one _ _ _) ?_
         intro W hb2 hg2 hz2
         have HF := Lib.hid (Fs.made hb2 hg2 rfl)
         clear hb2 hg2 hz2)
      have HG1 := Lib.hid (get_any (some a1) rest q cq 2 W HRL.out (by omega) (by omega) (HRB.out.below HF.out.below))
      clear hconv hcut hc0 hcut2
      refine HG1.out.mono ?_
      rintro e W' ⟨rfl, rfl⟩
      have HL16 := Lib.hid (be_lt (rest.take 2))
      generalize hl : be (rest.take 2) = l at *
      have HL := Lib.hid hl
      have h1c := HF.out.blk.cell 1
      have h1z := HF.out.blk.frozen 1
      rw [List.getElem?_toArray, R.c1] at h1c
      clear hl HG1
      go_wp2_with fail
      have HF1 := Lib.hid (HF.out.set_ 1 (.int .i64 (l : Int)) (set_len _ none 0 l) rfl)
      clear h1c h1z HF
      have hrl : ((rest.drop 2).take 32).length = 32 := List.length_take_of_le (by have := HRL.out; simp; omega)
      have hrc : ∀ k, k < 32 → ∃ c, ((rest.drop 2).take 32).getD k 0 = c ∧ ∀ wr, Below w.heap.size w wr → wr.cell? (a1.add (2 + k)) = some (.int .u8 (V8 c)) := fun k hk => by
        refine ⟨_, rfl, fun wr hb => ?_⟩
        obtain ⟨ad', e, hc⟩ := (HRB.out.below hb) (by have := HRL.out; omega)
        injection e with e; subst e
        rw [hc _ (by have := HRL.out; omega)]
        simp [List.getD, List.getElem?_take, hk]
      have HRT := Lib.hid hrl
      have HRC := Lib.hid hrc
      clear hrl hrc
      generalize hroot : (rest.drop 2).take 32 = root at *
      have HROOT := Lib.hid hroot
      clear hroot
      have HF2 : Hid (∃ r1 : R, r1 = { zeroR with id := id, len := (l : Int) } ∧ Fs w (W'.setCell ⟨w.heap.size + 1, 1, none⟩ (.int .i64 (l : Int))) (r1.withRoot (root.take 0 ++ List.replicate (32 - 0) 0) (by simp)) none 0) := Lib.hid ⟨_, rfl, HF1.out⟩
      obtain ⟨r1, hr1, hF2⟩ := HF2.out
      have HF3 := Lib.hid hF2
      have HR1 := Lib.hid hr1
      clear hr1 hF2 HF2 HF1
      go_loopw [7] (fun iv wr => RootRelF w r1 root iv wr) (fun iv _ => 32 - (intOf iv).toNat)
      case atStart => exact ⟨0, by simp, by omega, rfl, HF3.out⟩
      case round =>
        obtain ⟨k, hrk, hk, rfl, hT⟩ := hrel
        have HTk := Lib.hid hT
        clear hT
        by_cases hlt : k < 32
        · obtain ⟨c, hc, hcell⟩ := HRC.out k hlt
          have hc1 := hcell wr HTk.out.below
          have HC := Lib.hid hc
          have hbc := HTk.out.blk.cell (2 + k)
          have hbz := HTk.out.blk.frozen (2 + k)
          obtain ⟨v, hv⟩ : ∃ v, wr.cell? ⟨w.heap.size + 1, 2 + k, none⟩ = some v := by
            rw [hbc]
            exact ⟨_, by rw [List.getElem?_toArray]; exact List.getElem?_eq_getElem (by rw [R.size_]; omega)⟩
          clear hc hcell hbc
          go_wp2
          go_roundw
          case rel => exact RootRelF.step HTk.out hlt HRT.out HC.out
          case measure => simp [intOf]; omega
        · obtain rfl : k = 32 := by omega
          have HF4 := Lib.hid (RootRelF.done HTk.out HRT.out)
          clear HTk HF3
          go_wp2_with fail
          have HB4 := Lib.hid (bat_off (HRB.out.below HF4.out.below) 34 (by decide))
          refine (get_any _ (rest.drop 34) (q - 34) (cq - 34) 4 wr (by rw [List.length_drop, HRL.out]) (by omega) (by omega) HB4.out).mono ?_
          rintro e W4 ⟨rfl, rfl⟩
          have hi32 := be_lt ((rest.drop 34).take 4)
          rw [List.length_take_of_le (by rw [List.length_drop, HRL.out]; omega)] at hi32
          generalize hix : be ((rest.drop 34).take 4) = ix at *
          have HIX := Lib.hid hix
          clear hix HB4
          have h34c := HF4.out.blk.cell 34
          have h34z := HF4.out.blk.frozen 34
          rw [List.getElem?_toArray, R.c34] at h34c
          go_wp2_with fail
          have HF5 := Lib.hid (HF4.out.set_ 34 (.int .i64 (ix : Int)) (set_idx _ none 0 ix) rfl)
          clear h34c h34z HF4
          generalize hW5 : W4.setCell ⟨w.heap.size + 1, 34, none⟩ (.int .i64 (ix : Int)) = W5 at *
          clear hW5
          have HB5 := Lib.hid (bat_off (HRB.out.below HF5.out.below) 38 (by decide))
          refine (get_any _ (rest.drop 38) (q - 38) (cq - 38) 6 W5 (by rw [List.length_drop, HRL.out]) (by omega) (by omega) HB5.out).mono ?_
          rintro e W6 ⟨rfl, rfl⟩
          have hi48 := be_lt ((rest.drop 38).take 6)
          rw [List.length_take_of_le (by rw [List.length_drop, HRL.out]; omega)] at hi48
          generalize hex : be ((rest.drop 38).take 6) = ex at *
          have HEX := Lib.hid hex
          clear hex HB5
          have h35c := HF5.out.blk.cell 35
          have h35z := HF5.out.blk.frozen 35
          rw [List.getElem?_toArray, R.c35] at h35c
          have HF6 := Lib.hid (HF5.out.set_ 35 (.int .i64 (ex : Int)) (set_exp _ none 0 ex) rfl)
          have h44 := bat_at (HRB.out.below HF6.out.below) 44 (by decide) (by rw [HRL.out]; omega)
          have h45 := bat_at (HRB.out.below HF6.out.below) 45 (by decide) (by rw [HRL.out]; omega)
          have hf8 := (rest.getD 44 0).toNat_lt
          have hk8 := (rest.getD 45 0).toNat_lt
          generalize hfl : (rest.getD 44 0).toNat = f at *
          generalize hkk : (rest.getD 45 0).toNat = kk at *
          have HFL := Lib.hid hfl
          have HKK := Lib.hid hkk
          clear hfl hkk
          have h36c := HF6.out.blk.cell 36
          have h36z := HF6.out.blk.frozen 36
          have h37c := HF6.out.blk.cell 37
          have h37z := HF6.out.blk.frozen 37
          rw [List.getElem?_toArray, R.c36] at h36c
          rw [List.getElem?_toArray, R.c37] at h37c
          have HF7 := Lib.hid ((HF6.out.set_ 36 (.bool ((f : Int) % 2 == 1)) (set_hold _ none 0 _) rfl).set_ 37 (.bool ((f : Int) / 2 % 2 == 1)) (set_gone _ none 0 _) rfl)
          by_cases h3 : f < 4
          · have hf3 : ¬ (3 : Int) < (f : Int) := by omega
            by_cases h4 : q = 46 + 5 * kk
            · have hne : ((q : Int) != 46 + 5 * (kk : Int)) = false := by simp; omega
              have HQ := Lib.hid h4
              clear h4
              go_wp2_with fail
              obtain ⟨r0, h0c, h0i, h0r, hF8⟩ : ∃ r0 : R, r0.copies = [] ∧ r0.id = id ∧ (∀ (h46 : 46 ≤ rest.length) (done : List Cpy), recOf id rest done h46 = { r0 with copies := done }) ∧
                  Fs w (((W6.setCell ⟨w.heap.size + 1, 35, none⟩ (.int .i64 (ex : Int))).setCell ⟨w.heap.size + 1, 36, none⟩ (.bool ((f : Int) % 2 == 1))).setCell ⟨w.heap.size + 1, 37, none⟩ (.bool ((f : Int) / 2 % 2 == 1))) r0 none 0 :=
                ⟨_, by show r1.copies = []; rw [HR1.out]; rfl, by show r1.id = id; rw [HR1.out], fun h46 done => by
                  have h := HR1.out
                  subst h
                  simp only [recOf, R.withRoot, HL.out, HIX.out, HEX.out, HFL.out, HROOT.out, mod2_nat, div2_nat], HF7.out⟩
              have HF8 := Lib.hid hF8
              have HRM : Hid (∀ done : List Cpy, copiesM kk (rest.drop 46) = some (done, []) → decodeM bs = if ({ r0 with copies := done } : R).may then some { r0 with copies := done } else none) := Lib.hid (fun done hl => by
                have := restM_some (id := id) (rest := rest) (l := done) ⟨by rw [HRL.out]; omega, by rw [HFL.out]; exact h3⟩ (by rw [HKK.out]; exact hl)
                rw [h0r] at this
                rw [HDM.out]
                exact this)
              have H0C := Lib.hid h0c
              have H0I := Lib.hid h0i
              clear h0c h0i h0r hF8 h36c h36z h37c h37z h44 h45 HF7 HF6 HR1 HROOT HRC
              generalize hW7 : ((W6.setCell ⟨w.heap.size + 1, 35, none⟩ (.int .i64 (ex : Int))).setCell ⟨w.heap.size + 1, 36, none⟩ (.bool ((f : Int) % 2 == 1))).setCell ⟨w.heap.size + 1, 37, none⟩ (.bool ((f : Int) / 2 % 2 == 1)) = W7 at *
              clear hW7
              clear hne hf3
              go_loopw [9] (fun iv wr => DecRelF w r0 kk (rest.drop 46) iv wr) (fun iv _ => kk - (intOf iv).toNat)
              case atStart => exact ⟨0, [], none, 0, Nat.zero_le _, rfl, rfl, by simp, HF8.out.empty H0C.out⟩
              case round =>
                obtain ⟨i, done, C, capC, hik, rfl, hdl, hcm, hF⟩ := hrel
                have HDL := Lib.hid hdl
                have HCM := Lib.hid hcm
                have HFi := Lib.hid hF
                clear hdl hcm hF HF8
                by_cases hlt : i < kk
                · have hle : 46 + 5 * i + 5 ≤ q := by have := HQ.out; omega
                  have hcutL := fun (W : World) => run_cut_l (P := Try.prog) 28 5 byteTy (some a1) q cq .i64 (46 + 5 * (i : Int)) (46 + 5 * i) (by omega) (by omega) W
                  have hleft : BAt w (cutA (some a1) cq (46 + 5 * i)) ((rest.drop 46).drop (5 * i)) := by rw [List.drop_drop]; exact HRB.out.cut cq (46 + 5 * i) (by rw [HRL.out]; exact hqc)
                  have hlen : ((rest.drop 46).drop (5 * i)).length = q - (46 + 5 * i) := by rw [List.drop_drop, List.length_drop, HRL.out]
                  have HST := Lib.hid (fun (hn : 5 ≤ ((rest.drop 46).drop (5 * i)).length ∧ (((rest.drop 46).drop (5 * i)).getD 4 0).toNat < 2) => copies_step hlt hn HCM.out)
                  have HNO := Lib.hid (fun (hn : ¬ (5 ≤ ((rest.drop 46).drop (5 * i)).length ∧ (((rest.drop 46).drop (5 * i)).getD 4 0).toNat < 2)) => show decodeM bs = none by
                    rw [HDM.out]
                    apply restM_none
                    rw [HKK.out, HCM.out, copies_none hlt hn]
                    rfl)
                  have hnext : ((rest.drop 46).drop (5 * i)).drop 5 = (rest.drop 46).drop (5 * (i + 1)) := by rw [List.drop_drop]; rfl
                  have HNX := Lib.hid hnext
                  clear hnext
                  generalize (rest.drop 46).drop (5 * i) = left at *
                  have hq5 : 5 ≤ q - (46 + 5 * i) := by omega
                  have hqc2 : q - (46 + 5 * i) ≤ cq - (46 + 5 * i) := by omega
                  generalize q - (46 + 5 * i) = q2 at *
                  generalize cq - (46 + 5 * i) = c2 at *
                  obtain ⟨ac, hac, _⟩ := hleft (by omega)
                  rw [hac] at hleft hcutL
                  clear hac
                  have HLB := Lib.hid hleft
                  have HLL := Lib.hid hlen
                  clear hleft hlen
                  have h4c := bat_at (HLB.out.below HFi.out.below) 4 (by decide) (by rw [HLL.out]; omega)
                  have hb8 := (left.getD 4 0).toNat_lt
                  generalize hbb : (left.getD 4 0).toNat = b at *
                  have HBB := Lib.hid hbb
                  clear hbb
                  by_cases hb2 : b < 2
                  · have hgt : ¬ (1 : Int) < (b : Int) := by omega
                    go_wp2_with fail
                    have hs1 : (1 : Int) ≤ (q2 : Int) := by omega
                    have hs3 : (3 : Int) ≤ (q2 : Int) := by omega
                    have hs4 : (4 : Int) < (q2 : Int) := by omega
                    have hc1 : ¬ c2 = 1 := by omega
                    have hc3 : ¬ c2 = 3 := by omega
                    have h38c := HFi.out.blk.cell 38
                    rw [List.getElem?_toArray, R.c38] at h38c
                    refine Held.begin_t (fun x => Below w.heap.size w x) (fun x => x.cell? ⟨w.heap.size + 1, 38, none⟩ = some (.slice C done.length capC)) 16 (by kernel_rfl) (below_drewN HFi.out.below 1) h38c ?_
                    intro hB
                    refine Held.take_s (i := 0) (oi := ⟨some 108, _, _, _, _, _⟩) (v := ?_) rfl (by kernel_rfl) (by kernel_rfl) (by kernel_rfl) (by rfl) (fun _ _ _ h => h) (.inl ⟨by rfl, ?_⟩) hB ?_
                    rotate_left
                    · intro x hS
                      go_simp <;> with_reducible rfl
                    clear hB
                    intro hB
                    simp only [Act.put, List.setIfInBounds_toArray, List.set_cons_zero, List.set_cons_succ]
                    refine Held.take_t (i := 1) (oi := ⟨some 109, _, _, _, _, _⟩) (v := ?_) rfl (by kernel_rfl) (by kernel_rfl) (by kernel_rfl) (by rfl) (by kernel_rfl) (by kernel_rfl) (fun _ _ _ h => h) (.inl ⟨by rfl, ?_⟩) hB ?_
                    rotate_left
                    · intro x hS
                      have hx := hS.2
                      go_simp <;> with_reducible rfl
                    clear hB
                    intro hB
                    simp only [Act.put, List.setIfInBounds_toArray, List.set_cons_zero, List.set_cons_succ]
                    refine Held.take_s (i := 2) (oi := ⟨some 110, _, _, _, _, _⟩) (v := ?_) rfl (by kernel_rfl) (by kernel_rfl) (by kernel_rfl) (by rfl) (fun _ _ _ h => h) (.inl ⟨by rfl, ?_⟩) hB ?_
                    rotate_left
                    · intro x hS
                      go_simp <;> with_reducible rfl
                    clear hB
                    intro hB
                    simp only [Act.put, List.setIfInBounds_toArray, List.set_cons_zero, List.set_cons_succ]
                    refine Held.take_s (i := 4) (oi := ⟨some 112, _, _, _, _, _⟩) (v := ?_) rfl (by kernel_rfl) (by kernel_rfl) (by kernel_rfl) (by rfl) (fun _ _ _ h => h) (.inl ⟨by rfl, ?_⟩) hB ?_
                    rotate_left
                    · intro x hS
                      go_simp <;> with_reducible rfl
                    clear hB
                    intro hB
                    simp only [Act.put, List.setIfInBounds_toArray, List.set_cons_zero, List.set_cons_succ]
                    refine Held.take_s (i := 5) (oi := ⟨some 113, _, _, _, _, _⟩) (v := ?_) rfl (by kernel_rfl) (by kernel_rfl) (by kernel_rfl) (by rfl) (fun _ _ _ h => h) (.inl ⟨by rfl, ?_⟩) hB ?_
                    rotate_left
                    · intro x hS
                      go_simp <;> with_reducible rfl
                    clear hB
                    intro hB
                    simp only [Act.put, List.setIfInBounds_toArray, List.set_cons_zero, List.set_cons_succ]
                    refine Held.take_s (i := 7) (oi := ⟨some 115, _, _, _, _, _⟩) (v := ?_) rfl (by kernel_rfl) (by kernel_rfl) (by kernel_rfl) (by rfl) (fun _ _ _ h => h) (.inl ⟨by rfl, ?_⟩) hB ?_
                    rotate_left
                    · intro x hS
                      go_simp <;> with_reducible rfl
                    clear hB
                    intro hB
                    simp only [Act.put, List.setIfInBounds_toArray, List.set_cons_zero, List.set_cons_succ]
                    refine Held.take_s (i := 8) (oi := ⟨some 116, _, _, _, _, _⟩) (v := ?_) rfl (by kernel_rfl) (by kernel_rfl) (by kernel_rfl) (by rfl) (fun _ _ _ h => h) (.inl ⟨by rfl, ?_⟩) hB ?_
                    rotate_left
                    · intro x hS
                      go_simp <;> with_reducible rfl
                    clear hB
                    intro hB
                    simp only [Act.put, List.setIfInBounds_toArray, List.set_cons_zero, List.set_cons_succ]
                    refine Held.take_s (i := 10) (oi := ⟨some 118, _, _, _, _, _⟩) (v := ?_) rfl (by kernel_rfl) (by kernel_rfl) (by kernel_rfl) (by rfl) (fun _ _ _ h => h) (.inl ⟨by rfl, ?_⟩) hB ?_
                    rotate_left
                    · intro x hS
                      go_simp <;> with_reducible rfl
                    clear hB
                    intro hB
                    simp only [Act.put, List.setIfInBounds_toArray, List.set_cons_zero, List.set_cons_succ]
                    refine Held.take_s (i := 11) (oi := ⟨some 119, _, _, _, _, _⟩) (v := ?_) rfl (by kernel_rfl) (by kernel_rfl) (by kernel_rfl) (by rfl) (fun _ _ _ h => h) (.inl ⟨by rfl, ?_⟩) hB ?_
                    rotate_left
                    · intro x hS
                      go_simp <;> with_reducible rfl
                    clear hB
                    intro hB
                    simp only [Act.put, List.setIfInBounds_toArray, List.set_cons_zero, List.set_cons_succ]
                    refine Held.take_s (i := 12) (oi := ⟨some 120, _, _, _, _, _⟩) (v := ?_) rfl (by kernel_rfl) (by kernel_rfl) (by kernel_rfl) (by rfl) (fun _ _ _ h => h) (.inl ⟨by rfl, ?_⟩) hB ?_
                    rotate_left
                    · intro x hS
                      have hx := bat_at (HLB.out.below hS) 4 (by decide) (by rw [HLL.out]; omega)
                      rw [HBB.out] at hx
                      go_simp <;> with_reducible rfl
                    clear hB
                    intro hB
                    simp only [Act.put, List.setIfInBounds_toArray, List.set_cons_zero, List.set_cons_succ]
                    refine Held.take_s (i := 13) (oi := ⟨some 121, _, _, _, _, _⟩) (v := ?_) rfl (by kernel_rfl) (by kernel_rfl) (by kernel_rfl) (by rfl) (fun _ _ _ h => h) (.inl ⟨by rfl, ?_⟩) hB ?_
                    rotate_left
                    · intro x hS
                      go_simp <;> with_reducible rfl
                    clear hB
                    intro hB
                    simp only [Act.put, List.setIfInBounds_toArray, List.set_cons_zero, List.set_cons_succ]
                    refine Held.ready_t (rs := [3]) (by kernel_rfl) (by simp) ?_
                    refine Held.Each.cons (o := ⟨some 111, _, _, _, _, _⟩) rfl (fun K hK => ?_) Held.Each.nil
                    go_simp
                    refine (get_any (some ac) left q2 c2 1 _ HLL.out (by omega) (by omega) (HLB.out.below hB.1)).mono ?_
                    rintro e W ⟨rfl, rfl⟩
                    rw [be_one left (by rw [HLL.out]; omega)]
                    generalize hdv : (left.getD 0 0).toNat = dv at *
                    have HDV := Lib.hid hdv
                    clear hdv
                    go_wp2_with fail
                    refine hK.out _ _ (hB.next rfl) ?_
                    have hB' := hB.next (i := 3) rfl
                    clear hB hK K
                    have hB := hB'
                    clear hB'
                    refine Held.ready_t (rs := [6]) (by kernel_rfl) (by simp) ?_
                    refine Held.Each.cons (o := ⟨some 114, _, _, _, _, _⟩) rfl (fun K hK => ?_) Held.Each.nil
                    go_simp
                    refine (get_any _ (left.drop 1) (q2 - 1) (c2 - 1) 2 _ (by rw [List.length_drop, HLL.out]) (by omega) (by omega) (bat_off (HLB.out.below hB.1) 1 (by decide))).mono ?_
                    rintro e W ⟨rfl, rfl⟩
                    skip
                    generalize hpo : be ((left.drop 1).take 2) = po at *
                    have HPO := Lib.hid hpo
                    clear hpo
                    go_wp2_with fail
                    refine hK.out _ _ (hB.next rfl) ?_
                    have hB' := hB.next (i := 6) rfl
                    clear hB hK K
                    have hB := hB'
                    clear hB'
                    refine Held.ready_t (rs := [9]) (by kernel_rfl) (by simp) ?_
                    refine Held.Each.cons (o := ⟨some 117, _, _, _, _, _⟩) rfl (fun K hK => ?_) Held.Each.nil
                    go_simp
                    refine (get_any _ (left.drop 3) (q2 - 3) (c2 - 3) 1 _ (by rw [List.length_drop, HLL.out]) (by omega) (by omega) (bat_off (HLB.out.below hB.1) 3 (by decide))).mono ?_
                    rintro e W ⟨rfl, rfl⟩
                    rw [be_at left 3 (by rw [HLL.out]; omega)]
                    generalize hln : (left.getD 3 0).toNat = ln at *
                    have HLN := Lib.hid hln
                    clear hln
                    go_wp2_with fail
                    refine hK.out _ _ (hB.next rfl) ?_
                    have hB' := hB.next (i := 9) rfl
                    clear hB hK K
                    have hB := hB'
                    clear hB'
                    refine Held.take_s (i := 14) (oi := ⟨some 122, _, _, _, _, _⟩) (v := ?_) rfl (by kernel_rfl) (by kernel_rfl) (by kernel_rfl) (by rfl) (fun _ _ _ h => h) (.inl ⟨by rfl, ?_⟩) hB ?_
                    rotate_left
                    · intro x hS
                      go_simp <;> with_reducible rfl
                    clear hB
                    intro hB
                    simp only [Act.put, List.setIfInBounds_toArray, List.set_cons_zero, List.set_cons_succ]
                    have HF9 := Lib.hid (HFi.out.drew.alloc (.cells #[.int .i64 (dv : Int), .int .i64 (po : Int), .int .i64 (ln : Int), .bool ((b : Int) == 1)] 82))
                    have HNB := Lib.hid (Blk.new wr.drew 82 #[.int .i64 (dv : Int), .int .i64 (po : Int), .int .i64 (ln : Int), .bool ((b : Int) == 1)])
                    have h38d := HF9.out.blk.cell 38
                    rw [List.getElem?_toArray, R.c38] at h38d
                    refine Held.ready_t (rs := [15]) (by kernel_rfl) (by simp) ?_
                    refine Held.Each.cons (o := ⟨some 123, _, _, _, _, _⟩) rfl (fun K hK => ?_) Held.Each.nil
                    go_simp
                    refine hK.out _ _ ⟨HF9.out.below, fun _ => h38d⟩ ?_
                    clear hB hK K
                    refine Held.ready_t (rs := [16]) (by kernel_rfl) (by simp) ?_
                    refine Held.Each.cons (o := ⟨some 124, _, _, _, _, _⟩) rfl (fun K hK => ?_) Held.Each.nil
                    refine step_append_g (by rfl) (.tmp 109) (.tmp 123) _ (by rfl) (w.heap.size + 2) _ 4 32 _ cpyTy C done.length capC (cpyCells done) (by rfl) HF9.out.own ⟨wr.drew.heap.size, 0, none⟩ 1 1 (Cpy.cells ⟨dv, po, ln, (b : Int) == 1⟩) (by rfl) rfl (blk_news HNB.out) (by intro u hu; simp [Cpy.cells] at hu; rcases hu with rfl | rfl | rfl | rfl <;> rfl) (by have := HDL.out; unfold maxLen; omega) (by have := HDL.out; omega) HF9.out.blk.lt ?_
                    intro C' c' w' ho hg hb hA
                    have hap := HF9.out.append hg ho
                    have HFa := Lib.hid hap.2
                    have g38c := hap.1.cell 38
                    have g38z := hap.1.frozen 38
                    rw [List.getElem?_toArray, R.c38] at g38c
                    have hS2 : Below w.heap.size w w' := HF9.out.below.trans (hb.mono (Nat.le_add_right _ 2))
                    refine hK.out _ _ ⟨hS2, fun hn => absurd (show false = true from hn.symm.trans (by kernel_rfl)) (by decide)⟩ ?_
                    clear ho hg hb hA hK K h38c h38d
                    refine Held.take_s (i := 17) (oi := ⟨some 125, _, _, _, _, _⟩) (v := ?_) rfl (by kernel_rfl) (by kernel_rfl) (by kernel_rfl) (by rfl) (fun _ _ _ h => h) (.inl ⟨by rfl, ?_⟩) ⟨hS2, fun hn => absurd (show false = true from hn.symm.trans (by kernel_rfl)) (by decide)⟩ ?_
                    rotate_left
                    · intro x hS
                      go_simp <;> with_reducible rfl
                    intro hB
                    clear hB
                    simp only [Act.put, List.setIfInBounds_toArray, List.set_cons_zero, List.set_cons_succ]
                    refine Held.ready_t (rs := [18]) (by kernel_rfl) (by simp) ?_
                    refine Held.Each.cons (o := ⟨none, _, _, _, _, _⟩) rfl (fun K hK => ?_) Held.Each.nil
                    go_simp
                    have hS3 := HFa.out.below
                    refine hK.out _ _ ⟨hS3, fun hn => absurd (show false = true from hn.symm.trans (by kernel_rfl)) (by decide)⟩ ?_
                    clear hK K hS3 hS2 g38c g38z
                    refine Held.done_t (by kernel_rfl) ?_ _
                    have hcp : cpyOf left = ⟨dv, po, ln, (b : Int) == 1⟩ := by unfold cpyOf; rw [HDV.out, HPO.out, HLN.out, HBB.out, int_beq_one]
                    have HCP := Lib.hid hcp
                    clear hcp
                    go_wp2
                    go_roundw
                    case rel => exact ⟨i + 1, done ++ [⟨dv, po, ln, (b : Int) == 1⟩], C', c', hlt, by go_num, by simp [HDL.out], by rw [← HNX.out, ← HCP.out]; exact HST.out ⟨by rw [HLL.out]; omega, hb2⟩, HFa.out⟩
                    case measure => simp [intOf]; omega
                  · have HR : Hid (decodeM bs = none) := Lib.hid (HNO.out (by omega))
                    have hgt : (1 : Int) < (b : Int) := by omega
                    go_wp2_with
                      (refine wpList_store_whole rfl 26 (.tmp 2) (.tmp 107) rfl w.heap.size 26 (zeroR.cells none 0) (zeroR.cells none 0) rfl rfl HFi.out.res rfl (by rw [R.size_]; kernel_rfl) (rec_one _ _ _) ?_
                       intro w3 hb3 hg3 hz3
                       have HW3 := Lib.hid (below_set HFi.out.below hg3 (Nat.le_refl _))
                       have HG3 := Lib.hid hb3
                       clear hb3 hg3 hz3)
                    have hl := load_rec HG3.out
                    refine bodyPost_ret (v := .tuple #[.agg (zeroR.cells none 0).toArray, .int .i64 110]) ?_ rfl ⟨HW3.out, .inl ⟨HR.out, rfl⟩⟩
                    simp [results, Try.results21, asAddr, hl, Sem.run_bind]
                · obtain rfl : i = kk := by omega
                  have hnil : (rest.drop 46).drop (5 * i) = [] := List.drop_eq_nil_of_le (by rw [List.length_drop, HRL.out, HQ.out]; omega)
                  have hce := copies_end HCM.out
                  rw [hnil] at hce
                  have HRE := Lib.hid (HRM.out done hce)
                  have hidl : ({ r0 with copies := done } : R).id.length ≤ 140737488355328 := by
                    show r0.id.length ≤ _
                    rw [H0I.out, HIDN.out]; omega
                  have HIDL := Lib.hid hidl
                  generalize hrr : ({ r0 with copies := done } : R) = rr at *
                  have hcp : rr.copies.length = done.length := by rw [← hrr]
                  have HCP := Lib.hid hcp
                  clear hrr hidl hcp hnil hce
                  go_wp2_with (first
                    | (refine wpList_load_mid rfl 26 (.tmp 5) rfl (w.heap.size + 1) 0 rfl (rr.cells C capC) _ (rangeRec HFi.out.blk) Try.underlying26 rfl (by rw [R.size_]; kernel_rfl) ?_)
                    | fail)
                  refine (refMay_any rr C capC _ HIDL.out (by rw [HCP.out, HDL.out]; omega) (own_cat HFi.out.own)).mono ?_
                  rintro e x ⟨rfl, hb⟩
                  have HFx := Lib.hid (HFi.out.to hb)
                  clear hb
                  cases hmy : rr.may
                  · have HR : Hid (decodeM bs = none) := Lib.hid (by rw [HRE.out, hmy]; rfl)
                    clear hmy
                    go_wp2_with
                      (refine wpList_store_whole rfl 26 (.tmp 2) (.tmp 129) rfl w.heap.size 26 (zeroR.cells none 0) (zeroR.cells none 0) rfl rfl HFx.out.res rfl (by rw [R.size_]; kernel_rfl) (rec_one _ _ _) ?_
                       intro w3 hb3 hg3 hz3
                       have HW3 := Lib.hid (below_set HFx.out.below hg3 (Nat.le_refl _))
                       have HG3 := Lib.hid hb3
                       clear hb3 hg3 hz3)
                    have hl := load_rec HG3.out
                    refine bodyPost_ret (v := .tuple #[.agg (zeroR.cells none 0).toArray, .int .i64 110]) ?_ rfl ⟨HW3.out, .inl ⟨HR.out, rfl⟩⟩
                    simp [results, Try.results21, asAddr, hl, Sem.run_bind]
                  · have HR : Hid (decodeM bs = some rr) := Lib.hid (by rw [HRE.out, hmy]; rfl)
                    clear hmy
                    go_wp2_with (first
                      | (refine wpList_load_mid rfl 26 (.tmp 5) rfl (w.heap.size + 1) 0 rfl (rr.cells C capC) _ (rangeRec HFx.out.blk) Try.underlying26 rfl (by rw [R.size_]; kernel_rfl) ?_)
                      | (refine wpList_store_whole rfl 26 (.tmp 2) (.tmp 130) rfl w.heap.size 26 (zeroR.cells none 0) (rr.cells C capC) rfl rfl HFx.out.res (by rw [R.size_, R.size_]) (by rw [R.size_]; kernel_rfl) (rec_one _ _ _) ?_
                         intro w3 hb3 hg3 hz3
                         have HW3 := Lib.hid (below_set HFx.out.below hg3 (Nat.le_refl _))
                         have HG3 := Lib.hid hb3
                         have HO3 := Lib.hid (HFx.out.own.kept hg3 (.inr (HFx.out.own.ne_lt (by simp))))
                         clear hb3 hg3 hz3))
                    have hl := load_rec HG3.out
                    refine bodyPost_ret (v := .tuple #[.agg (rr.cells C capC).toArray, .int .i64 0]) ?_ rfl ⟨HW3.out, .inr ⟨rr, C, capC, HR.out, rfl, HO3.out.mono (by simp)⟩⟩
                    simp [results, Try.results21, asAddr, hl, Sem.run_bind]
            · have HR : Hid (decodeM bs = none) := Lib.hid (by rw [HDM.out]; exact restM_long (by rw [HRL.out, HKK.out]; exact h4))
              have hne : ((q : Int) != 46 + 5 * (kk : Int)) = true := by simp; omega
              go_wp2_with
                (refine wpList_store_whole rfl 26 (.tmp 2) (.tmp 92) rfl w.heap.size 26 (zeroR.cells none 0) (zeroR.cells none 0) rfl rfl HF7.out.res rfl (by rw [R.size_]; kernel_rfl) (rec_one _ _ _) ?_
                 intro w3 hb3 hg3 hz3
                 have HW3 := Lib.hid (below_set HF7.out.below hg3 (Nat.le_refl _))
                 have HG3 := Lib.hid hb3
                 clear hb3 hg3 hz3)
              have hl := load_rec HG3.out
              refine bodyPost_ret (v := .tuple #[.agg (zeroR.cells none 0).toArray, .int .i64 110]) ?_ rfl ⟨HW3.out, .inl ⟨HR.out, rfl⟩⟩
              simp [results, Try.results21, asAddr, hl, Sem.run_bind]
          · have HR : Hid (decodeM bs = none) := Lib.hid (by rw [HDM.out]; exact restM_short (by rw [HFL.out]; omega))
            have hf3 : (3 : Int) < (f : Int) := by omega
            go_wp2_with
              (refine wpList_store_whole rfl 26 (.tmp 2) (.tmp 92) rfl w.heap.size 26 (zeroR.cells none 0) (zeroR.cells none 0) rfl rfl HF7.out.res rfl (by rw [R.size_]; kernel_rfl) (rec_one _ _ _) ?_
               intro w3 hb3 hg3 hz3
               have HW3 := Lib.hid (below_set HF7.out.below hg3 (Nat.le_refl _))
               have HG3 := Lib.hid hb3
               clear hb3 hg3 hz3)
            have hl := load_rec HG3.out
            refine bodyPost_ret (v := .tuple #[.agg (zeroR.cells none 0).toArray, .int .i64 110]) ?_ rfl ⟨HW3.out, .inl ⟨HR.out, rfl⟩⟩
            simp [results, Try.results21, asAddr, hl, Sem.run_bind]
    · have HR : Hid (decodeM bs = none) := Lib.hid (by rw [HDM.out]; exact restM_short (by omega))
      clear hrl
      have hlt2 : (m : Int) < 1 + (n : Int) + 46 := by omega
      go_enter Try.func21, Try.ntmps21
      go_wp2_with
        (refine wpList_store_whole rfl 26 (.tmp 2) (.tmp 25) rfl w.heap.size 26 (zeroR.cells none 0) (zeroR.cells none 0) rfl rfl HG.out rfl (by rw [R.size_]; kernel_rfl) (rec_one _ _ _) ?_
         intro w3 hb3 hg3 hz3
         have HW3 := Lib.hid (below_set (below_al' _) hg3 (Nat.le_refl _))
         have HG3 := Lib.hid hb3
         clear hb3 hg3 hz3)
      have hl := load_rec HG3.out
      refine bodyPost_ret (v := .tuple #[.agg (zeroR.cells none 0).toArray, .int .i64 110]) ?_ rfl ⟨HW3.out, .inl ⟨HR.out, rfl⟩⟩
      simp [results, Try.results21, asAddr, hl, Sem.run_bind]
  · have HR : Hid (decodeM bs = none) := Lib.hid (by
      have : bs = [] := List.eq_nil_of_length_eq_zero (by have := HM.out; omega)
      subst this
      exact restM_short (by simp))
    obtain rfl : m = 0 := by omega
    go_enter Try.func21, Try.ntmps21
    go_wp2_with
      (refine wpList_store_whole rfl 26 (.tmp 2) (.tmp 25) rfl w.heap.size 26 (zeroR.cells none 0) (zeroR.cells none 0) rfl rfl HG.out rfl (by rw [R.size_]; kernel_rfl) (rec_one _ _ _) ?_
       intro w3 hb3 hg3 hz3
       have HW3 := Lib.hid (below_set (below_al' _) hg3 (Nat.le_refl _))
       have HG3 := Lib.hid hb3
       clear hb3 hg3 hz3)
    have hl := load_rec HG3.out
    refine bodyPost_ret (v := .tuple #[.agg (zeroR.cells none 0).toArray, .int .i64 110]) ?_ rfl ⟨HW3.out, .inl ⟨HR.out, rfl⟩⟩
    simp [results, Try.results21, asAddr, hl, Sem.run_bind]
end Go.Proofs.Ytomncfiklkhfjaa.Rec
