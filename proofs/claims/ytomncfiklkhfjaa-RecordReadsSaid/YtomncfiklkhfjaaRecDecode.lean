/- The walk of the reading of records. -/
import Derived.Test.YtomncfiklkhfjaaRecDec
namespace Go.Proofs.Ytomncfiklkhfjaa.Rec
open Go.RowKit Mem Crc _root_.Go.Proofs.Ytomncfiklkhfjaa.Frame
attribute [local go_sem] S8_size
attribute [local go_sem ↓] Go.wp_at_zero Go.wp_at_succ
set_option maxRecDepth 100000 in
set_option maxHeartbeats 4000000 in
theorem decodeR_any (A : Option Addr) (bs : List UInt8) (m cap : Nat) (w : World) (hb : BAt w A bs) (hm : bs.length = m) (hc : m ≤ cap) (hcap : m ≤ 140737488355328) :
    Calls Try.prog 60 #[.slice A m cap] w (RetDc w (decodeM bs)) := by
  have HM := Lib.hid hm
  have HD0 := Lib.hid (dec_made w (.slice A m cap))
  have HRD := Lib.hid (decRd_made w A bs m cap hb hm hc hcap)
  clear hb hm
  by_cases h1 : 1 ≤ m
  · go_enter_defers Try.func60, Try.ntmps60
    go_wp2_with fail
    refine (number_yes_ 1 HRD.out (Nat.le_refl _) (by omega) h1).mono ?_
    rintro e w1 ⟨rfl, hg1, hr1⟩
    rw [be_one bs (by rw [HM.out]; exact h1)]
    have HD1 := Lib.hid (HD0.out.grown hg1)
    have HR1 := Lib.hid hr1
    clear hg1 hr1 HD0 HRD
    have HDM := Lib.hid (show decodeM bs = restM ((bs.drop 1).take (bs.getD 0 0).toNat) (bs.drop (1 + (bs.getD 0 0).toNat)) from rfl)
    have hn8 := (bs.getD 0 0).toNat_lt
    generalize hn : (bs.getD 0 0).toNat = n at *
    clear hn
    by_cases h2 : n ≤ m - 1
    · go_wp2_with fail
      refine (take_yes_ n HR1.out h2).mono ?_
      rintro e w2 ⟨rfl, hg2, hr2⟩
      have HD2 := Lib.hid (HD1.out.grown hg2)
      rw [List.drop_drop] at hr2
      have hconv := run_toString (P := Try.prog) (w := w2) (ts := 9) byteTy strTy (cap - 1) ((HR1.out.bat.take n).below hr2.below) (by rw [List.length_take_of_le (by rw [HR1.out.len]; exact h2)])
      rw [show ByteArray.mk ((bs.drop 1).take n).toArray = S8 ((bs.drop 1).take n) from rfl] at hconv
      have hidn : ((bs.drop 1).take n).length ≤ n := List.length_take_le _ _
      generalize hid : (bs.drop 1).take n = id at *
      generalize hrest : bs.drop (1 + n) = rest at *
      generalize hq : m - 1 - n = q at *
      generalize cutA (cutA A cap 1) (cap - 1) n = A2 at *
      generalize cap - 1 - n = cap2 at *
      have HR2 := Lib.hid hr2
      clear hg2 hr2 HD1 hid hrest hq HM
      have h0c := HD2.out.blk.cell 0
      have h0z := HD2.out.blk.frozen 0
      rw [List.getElem?_toArray, R.c0] at h0c
      go_wp2_with fail
      have HD2' := Lib.hid (HD2.out.set_ 0 (.string (S8 id)) (set_id zeroR none 0 id) rfl)
      have HR2' := Lib.hid (HR2.out.far (p := ⟨w.heap.size, 0, none⟩) (by simp) (by simp) (.string (S8 id)))
      clear hconv h0c h0z
      by_cases h3 : 2 ≤ q
      · refine (number_yes_ 2 HR2'.out (by omega) (by omega) h3).mono ?_
        rintro e w3 ⟨rfl, hg3, hr3⟩
        have HD3 := Lib.hid (HD2'.out.grown hg3)
        have HR3 := Lib.hid hr3
        clear hg3 hr3 HD2' HR2' HD2
        have hl16 := be_lt (rest.take 2)
        rw [List.length_take_of_le (by have := HR2.out.len; omega)] at hl16
        generalize hl : be (rest.take 2) = l at *
        have h1c := HD3.out.blk.cell 1
        have h1z := HD3.out.blk.frozen 1
        rw [List.getElem?_toArray, R.c1] at h1c
        have hcut := fun (W : World) => run_cutAll (P := Try.prog) 23 5 32 arrTy byteTy.hi w.heap.size 2 (by decide) W
        have HL := Lib.hid hl
        clear hl
        go_wp2_with fail
        have HD3' := Lib.hid (HD3.out.set_ 1 (.int .i64 (l : Int)) (set_len _ none 0 l) rfl)
        have HR3' := Lib.hid (HR3.out.far (p := ⟨w.heap.size, 1, none⟩) (by simp) (by simp) (.int .i64 (l : Int)))
        clear h1c h1z HD3
        by_cases h4 : 32 ≤ q - 2
        · have h32 : ((rest.drop 2).take 32).length = 32 := List.length_take_of_le (by rw [HR3.out.len]; exact h4)
          go_region_held3 (fun _ => True) (trivial)
            (first
              | (go_at_call 85
                 refine (take_yes_ 32 HR3'.out.drew h4).mono ?_
                 rintro e w4 ⟨rfl, hg4, hr4⟩
                 have HD4 := Lib.hid (HD3'.out.drew.grown hg4)
                 have HR4 := Lib.hid hr4)
              | (refine step_copy_mid (by rfl) (.tmp 21) (.tmp 23) _ (by rfl) _ byteTy w.heap.size 2 32 32 26 _ (by rfl) HD4.out.blk _ 32 _ ((rest.drop 2).take 32) (by rfl) ((HR3.out.bat.take 32).below HR4.out.below)
                   h32 (by omega) (by rfl) (by rw [R.size_]; omega) ?_
                 intro w5 hb5 hg5 hz5))
          rw [set_root _ none 0 _ h32] at hb5
          have HD5 := Lib.hid (HD4.out.turned hg5 hb5 rfl)
          have HR5 := Lib.hid ((HR4.out.grown hg5 (fun k hk => by injection hk with hk; omega)).cast (show _ = rest.drop 34 by rw [List.drop_drop]))
          clear hg4 hr4 hb5 hg5 hz5 HR4 HD4 HD3' HR3' HR3 hcut
          generalize cutA (cutA A2 cap2 2) (cap2 - 2) 32 = A5 at *
          go_wp2_with fail
          by_cases h5 : 4 ≤ q - 2 - 32
          · refine (number_yes_ 4 HR5.out (by omega) (by omega) h5).mono ?_
            rintro e w6 ⟨rfl, hg6, hr6⟩
            have HD6 := Lib.hid (HD5.out.grown hg6)
            have HR6 := Lib.hid (hr6.cast (show _ = rest.drop 38 by rw [List.drop_drop]))
            have hi32 := be_lt ((rest.drop 34).take 4)
            rw [List.length_take_of_le (by have := HR2.out.len; simp; omega)] at hi32
            generalize hix : be ((rest.drop 34).take 4) = ix at *
            have HIX := Lib.hid hix
            clear hg6 hr6 HD5 HR5 hix
            generalize cutA A5 (cap2 - 2 - 32) 4 = A6 at *
            go_wp2_with fail
            by_cases h6 : 6 ≤ q - 2 - 32 - 4
            · refine (number_yes_ 6 HR6.out (by omega) (by omega) h6).mono ?_
              rintro e w7 ⟨rfl, hg7, hr7⟩
              have HD7 := Lib.hid (HD6.out.grown hg7)
              have HR7 := Lib.hid (hr7.cast (show _ = rest.drop 44 by rw [List.drop_drop]))
              have hi48 := be_lt ((rest.drop 38).take 6)
              rw [List.length_take_of_le (by have := HR2.out.len; simp; omega)] at hi48
              generalize hex : be ((rest.drop 38).take 6) = ex at *
              have HEX := Lib.hid hex
              clear hg7 hr7 HD6 HR6 hex
              generalize cutA A6 (cap2 - 2 - 32 - 4) 6 = A7 at *
              have h34c := HD7.out.blk.cell 34
              have h34z := HD7.out.blk.frozen 34
              rw [List.getElem?_toArray, R.c34] at h34c
              have h35c := HD7.out.blk.cell 35
              have h35z := HD7.out.blk.frozen 35
              rw [List.getElem?_toArray, R.c35] at h35c
              go_wp2_with fail
              have HD8 := Lib.hid ((HD7.out.set_ 34 (.int .i64 (ix : Int)) (set_idx _ none 0 ix) rfl).set_ 35 (.int .i64 (ex : Int)) (set_exp _ none 0 ex) rfl)
              have HR8 := Lib.hid ((HR7.out.far (p := ⟨w.heap.size, 34, none⟩) (by simp) (by simp) (.int .i64 (ix : Int))).far (p := ⟨w.heap.size, 35, none⟩) (by simp) (by simp) (.int .i64 (ex : Int)))
              clear h34c h34z h35c h35z HD7
              generalize (w7.setCell ⟨w.heap.size, 34, none⟩ (.int .i64 (ix : Int))).setCell ⟨w.heap.size, 35, none⟩ (.int .i64 (ex : Int)) = w8 at *
              by_cases h7 : 1 ≤ q - 2 - 32 - 4 - 6
              · refine (number_yes_ 1 HR8.out (by omega) (by omega) h7).mono ?_
                rintro e w9 ⟨rfl, hg9, hr9⟩
                rw [be_at rest 44 (by have := HR2.out.len; omega)]
                have HD9 := Lib.hid (HD8.out.grown hg9)
                have HR9 := Lib.hid (hr9.cast (show _ = rest.drop 45 by rw [List.drop_drop]))
                have hf8 := (rest.getD 44 0).toNat_lt
                generalize hfl : (rest.getD 44 0).toNat = f at *
                have HFL := Lib.hid hfl
                clear hg9 hr9 HD8 HR8 HR7 hfl
                generalize cutA A7 (cap2 - 2 - 32 - 4 - 6) 1 = A9 at *
                have h36c := HD9.out.blk.cell 36
                have h36z := HD9.out.blk.frozen 36
                rw [List.getElem?_toArray, R.c36] at h36c
                have h37c := HD9.out.blk.cell 37
                have h37z := HD9.out.blk.frozen 37
                rw [List.getElem?_toArray, R.c37] at h37c
                go_wp2_with fail
                have HD10 := Lib.hid ((HD9.out.set_ 36 (.bool (bits BinOp.and IntKind.i64 (f : Int) 1 == 1)) (set_hold _ none 0 _) rfl).set_ 37 (.bool (bits BinOp.and IntKind.i64 (f : Int) 2 == 2)) (set_gone _ none 0 _) rfl)
                have HR10 := Lib.hid ((HR9.out.far (p := ⟨w.heap.size, 36, none⟩) (by simp) (by simp) (.bool (bits BinOp.and IntKind.i64 (f : Int) 1 == 1))).far (p := ⟨w.heap.size, 37, none⟩) (by simp) (by simp) (.bool (bits BinOp.and IntKind.i64 (f : Int) 2 == 2)))
                clear h36c h36z h37c h37z HD9 HR9
                have HA1 := Lib.hid (and1 f (by omega))
                have HA2 := Lib.hid (and2 f (by omega))
                generalize hw10 : (w9.setCell ⟨w.heap.size, 36, none⟩ (.bool (bits BinOp.and IntKind.i64 (f : Int) 1 == 1))).setCell ⟨w.heap.size, 37, none⟩ (.bool (bits BinOp.and IntKind.i64 (f : Int) 2 == 2)) = w10 at *
                clear hw10
                by_cases h8 : f < 4
                · rw [show decide ((f : Int) < 4) = true from decide_eq_true (by omega)]
                  refine (sure_yes _).mono ?_
                  rintro e x ⟨rfl, rfl⟩
                  go_wp2_with fail
                  by_cases h9 : 1 ≤ q - 2 - 32 - 4 - 6 - 1
                  · refine (number_yes_ 1 HR10.out (by omega) (by omega) h9).mono ?_
                    rintro e w11 ⟨rfl, hg11, hr11⟩
                    rw [be_at rest 45 (by have := HR2.out.len; omega)]
                    have HD11 := Lib.hid (HD10.out.grown hg11)
                    have HR11 := Lib.hid (hr11.cast (show _ = rest.drop 46 by rw [List.drop_drop]))
                    have hk8 := (rest.getD 45 0).toNat_lt
                    generalize hkk : (rest.getD 45 0).toNat = k at *
                    have HKK := Lib.hid hkk
                    clear hg11 hr11 HD10 HR10 hkk
                    generalize cutA A9 (cap2 - 2 - 32 - 4 - 6 - 1) 1 = A11 at *
                    have h46 : 46 ≤ rest.length := by have := HR2.out.len; omega
                    generalize hr0 : ({ id := id, len := l, root := (rest.drop 2).take 32, idx := ix, exp := ex, hold := bits BinOp.and IntKind.i64 (f : Int) 1 == 1, gone := bits BinOp.and IntKind.i64 (f : Int) 2 == 2, copies := [], h32 := h32 } : R) = r0
                    have HD12 : Hid (Ds w w11 r0 none 0) := Lib.hid (by rw [← hr0]; exact HD11.out)
                    have HREC : Hid (∀ done : List Cpy, recOf id rest done h46 = { r0 with copies := done }) := Lib.hid (fun done => by
                      rw [← hr0]
                      unfold recOf
                      simp only [HL.out, HIX.out, HEX.out, HFL.out, HA1.out, HA2.out])
                    have h0cp : r0.copies = [] := by rw [← hr0]
                    have HC0 := Lib.hid h0cp
                    have h4f : (rest.getD 44 0).toNat < 4 := by rw [HFL.out]; exact h8
                    have HRM : Hid (∀ done : List Cpy, copiesM k (rest.drop 46) = some (done, []) → restM id rest = if ({ r0 with copies := done } : R).may then some { r0 with copies := done } else none) := Lib.hid (fun done hl => by
                      have := restM_some (id := id) (rest := rest) (l := done) ⟨h46, h4f⟩ (by rw [HKK.out]; exact hl)
                      rw [HREC.out] at this
                      exact this)
                    have hidr : r0.id = id := by rw [← hr0]
                    have HIDR := Lib.hid hidr
                    clear hr0 HD11 h0cp h4f HL HIX HEX HFL HA1 HA2 HREC hidr
                    go_wp2_with fail
                    go_loopw [46] (fun iv wr => DecRel w r0 k (rest.drop 46) iv wr) (fun iv _ => k - (intOf iv).toNat)
                    case atStart => exact ⟨0, [], rest.drop 46, none, 0, A11, _, _, Nat.zero_le _, rfl, rfl, by simp, HD12.out.empty HC0.out, HR11.out⟩
                    case round =>
                      obtain ⟨i, done, left, C, capC, Aq, q1, cq, hik, rfl, hdl, hcm, hD, hR⟩ := hrel
                      have HDL := Lib.hid hdl
                      have HCM := Lib.hid hcm
                      have HD := Lib.hid hD
                      have HR := Lib.hid hR
                      have hcz : ∀ g, wr.heap.size ≤ g → C.map (·.block) ≠ some g := fun g hg => by
                        rcases hD.own.form with ⟨rfl, _, _⟩ | ⟨g', rfl, _, hg'⟩
                        · simp
                        · simp; omega
                      have HCZ := Lib.hid hcz
                      have hk256 : done.length ≤ k := by omega
                      clear hdl hcm hD hR hcz
                      by_cases hlt : i < k
                      · have HN := Lib.hid (fun (hn : ¬ (5 ≤ left.length ∧ (left.getD 4 0).toNat < 2)) => show decodeM bs = none by
                          rw [HDM.out]
                          apply restM_none
                          rw [HKK.out, HCM.out, copies_none hlt hn]
                          rfl)
                        go_wp2_with fail
                        by_cases k1 : 1 ≤ q1
                        · refine (number_yes_ 1 HR.out (by omega) (by omega) k1).mono ?_
                          rintro e x1 ⟨rfl, hg, hr⟩
                          rw [be_one left (by have := HR.out.len; omega)]
                          generalize hdv : (left.getD 0 0).toNat = dv at *
                          have HDV := Lib.hid hdv
                          clear hdv
                          have HDa := Lib.hid (HD.out.grown hg)
                          have HRa := Lib.hid hr
                          have s1 := hg.size
                          clear hg hr
                          go_wp2_with fail
                          by_cases k2 : 2 ≤ q1 - 1
                          · refine (number_yes_ 2 HRa.out (by omega) (by omega) k2).mono ?_
                            rintro e x2 ⟨rfl, hg, hr⟩
                            generalize hpo : be ((left.drop 1).take 2) = po at *
                            have HPO := Lib.hid hpo
                            clear hpo
                            have HDb := Lib.hid (HDa.out.grown hg)
                            have HRb := Lib.hid (hr.cast (show _ = left.drop 3 by rw [List.drop_drop]))
                            have s2 := hg.size
                            clear hg hr HDa HRa
                            go_wp2_with fail
                            by_cases k3 : 1 ≤ q1 - 1 - 2
                            · refine (number_yes_ 1 HRb.out (by omega) (by omega) k3).mono ?_
                              rintro e x3 ⟨rfl, hg, hr⟩
                              rw [be_at left 3 (by have := HR.out.len; omega)]
                              have HDc := Lib.hid (HDb.out.grown hg)
                              have HRc := Lib.hid (hr.cast (show _ = left.drop 4 by rw [List.drop_drop]))
                              generalize hln : (left.getD 3 0).toNat = ln at *
                              have HLN := Lib.hid hln
                              clear hln
                              have HP := Lib.hid (Blk.new x3 82 #[.int .i64 (dv : Int), .int .i64 (po : Int), .int .i64 (ln : Int), .bool false])
                              have HDd := Lib.hid (HDc.out.alloc (.cells #[.int .i64 (dv : Int), .int .i64 (po : Int), .int .i64 (ln : Int), .bool false] 82))
                              have HRd := Lib.hid (HRc.out.to (below_al' (.cells #[.int .i64 (dv : Int), .int .i64 (po : Int), .int .i64 (ln : Int), .bool false] 82)))
                              have hz3 := HRc.out.blk.lt
                              have s3 := hg.size
                              clear hg hr HDb HRb HDc HRc
                              go_wp2_with fail
                              by_cases k4 : 1 ≤ q1 - 1 - 2 - 1
                              · refine (number_yes_ 1 HRd.out (by omega) (by omega) k4).mono ?_
                                rintro e x4 ⟨rfl, hg, hr⟩
                                rw [be_at left 4 (by have := HR.out.len; omega)]
                                have HDe := Lib.hid (HDd.out.grown hg)
                                have HRe := Lib.hid (hr.cast (show _ = left.drop 5 by rw [List.drop_drop]))
                                have HPe := Lib.hid (HP.out.grown hg (by simp; omega))
                                have HST := Lib.hid (fun (hn : 5 ≤ left.length ∧ (left.getD 4 0).toNat < 2) => copies_step hlt hn HCM.out)
                                have hb8 := (left.getD 4 0).toNat_lt
                                generalize hbb : (left.getD 4 0).toNat = b at *
                                have HQ := Lib.hid (show cpyOf left = ⟨dv, po, ln, (b : Int) == 1⟩ by unfold cpyOf; rw [HDV.out, HPO.out, HLN.out, hbb, int_beq_one])
                                clear hbb
                                have s4 := hg.size
                                simp at s4
                                clear hg hr HDd HRd HP
                                go_wp2_with fail
                                by_cases k5 : b < 2
                                · rw [show decide ((b : Int) < 2) = true from decide_eq_true (by omega)]
                                  refine (sure_yes _).mono ?_
                                  rintro e x ⟨rfl, rfl⟩
                                  have c0 := HPe.out.cell 0
                                  have c1 := HPe.out.cell 1
                                  have c2 := HPe.out.cell 2
                                  have c3 := HPe.out.cell 3
                                  have c3z := HPe.out.frozen 3
                                  simp only [List.getElem?_toArray, List.getElem?_cons_zero, List.getElem?_cons_succ] at c0 c1 c2 c3
                                  have h38c := HDe.out.blk.cell 38
                                  rw [List.getElem?_toArray, R.c38] at h38c
                                  have HCN := Lib.hid (HCZ.out x3.heap.size (by omega))
                                  have HDf := Lib.hid ((HDe.out.far (p := ⟨x3.heap.size, 3, none⟩) (by simp; omega) HCN.out (.bool ((b : Int) == 1))).alloc (.cells #[.int .i64 (dv : Int), .int .i64 (po : Int), .int .i64 (ln : Int), .bool ((b : Int) == 1)] 82))
                                  have HRf := Lib.hid ((HRe.out.far (p := ⟨x3.heap.size, 3, none⟩) (by simp; omega) (by simp; omega) (.bool ((b : Int) == 1))).to (below_al' (.cells #[.int .i64 (dv : Int), .int .i64 (po : Int), .int .i64 (ln : Int), .bool ((b : Int) == 1)] 82)))
                                  have HNB := Lib.hid (Blk.new_at (x.setCell ⟨x3.heap.size, 3, none⟩ (.bool ((b : Int) == 1))) x.heap.size (by simp [World.setCell]) 82 (#[.int .i64 (dv : Int), .int .i64 (po : Int), .int .i64 (ln : Int), .bool ((b : Int) == 1)] : Array Value))
                                  have hsf := HDf.out.below.size
                                  go_wp2_with
                                    (at_builtin
                                     refine wpList_append_g rfl (.tmp 64) (.tmp 66) _ rfl (w.heap.size + 3) _ 4 32 _ cpyTy C done.length capC (cpyCells done) rfl HDf.out.own ⟨x.heap.size, 0, none⟩ 1 1 (Cpy.cells ⟨dv, po, ln, (b : Int) == 1⟩) rfl rfl (blk_news HNB.out) (by intro u hu; simp [Cpy.cells] at hu; rcases hu with rfl | rfl | rfl | rfl <;> rfl) (by unfold maxLen; omega) (by omega) (by have := HRf.out.blk.lt; omega) ?_
                                     intro C' c' w' ho hg hb hA
                                     have hap := HDf.out.append hg ho
                                     have HDg := Lib.hid hap.2
                                     have HRg := Lib.hid ((HRf.out.grown hg (fun k hk => by have := HDf.out.own.row_ge k hk; omega)).far (p := ⟨w.heap.size, 38, none⟩) (by simp) (by simp) (.slice C' (done.length + 1) c'))
                                     have g38c := hap.1.cell 38
                                     have g38z := hap.1.frozen 38
                                     rw [List.getElem?_toArray, R.c38] at g38c
                                     clear hap ho hg hb hA c0 c1 c2 c3 c3z h38c)
                                  go_roundw
                                  case rel => exact ⟨i + 1, done ++ [⟨dv, po, ln, (b : Int) == 1⟩], left.drop 5, C', c', _, _, _, hlt, by go_num, by simp [HDL.out], by rw [← HQ.out]; exact HST.out ⟨by have := HR.out.len; omega, k5⟩, HDg.out, HRg.out⟩
                                  case measure => simp [intOf]; omega
                                · have HNN : Hid (decodeM bs = none) := Lib.hid (HN.out (by omega))
                                  rw [show decide ((b : Int) < 2) = false from decide_eq_false (by omega)]
                                  refine (sure_no _).mono ?_
                                  rintro e x ⟨rfl, rfl⟩
                                  exact dec_none HNN.out HDe.out rfl rfl
                              · have HNN : Hid (decodeM bs = none) := Lib.hid (HN.out (by have := HR.out.len; omega))
                                refine (number_no_ 1 HRd.out (by omega)).mono ?_
                                rintro e x ⟨rfl, rfl⟩
                                exact dec_none HNN.out HDd.out rfl rfl
                            · have HNN : Hid (decodeM bs = none) := Lib.hid (HN.out (by have := HR.out.len; omega))
                              refine (number_no_ 1 HRb.out (by omega)).mono ?_
                              rintro e x ⟨rfl, rfl⟩
                              exact dec_none HNN.out HDb.out rfl rfl
                          · have HNN : Hid (decodeM bs = none) := Lib.hid (HN.out (by have := HR.out.len; omega))
                            refine (number_no_ 2 HRa.out (by omega)).mono ?_
                            rintro e x ⟨rfl, rfl⟩
                            exact dec_none HNN.out HDa.out rfl rfl
                        · have HNN : Hid (decodeM bs = none) := Lib.hid (HN.out (by have := HR.out.len; omega))
                          refine (number_no_ 1 HR.out (by omega)).mono ?_
                          rintro e x ⟨rfl, rfl⟩
                          exact dec_none HNN.out HD.out rfl rfl
                      · obtain rfl : i = k := by omega
                        have HCE := Lib.hid (copies_end HCM.out)
                        have hrd := HR.out.blk.cell 0
                        simp only [List.getElem?_toArray, List.getElem?_cons_zero] at hrd
                        by_cases hz : q1 = 0
                        · subst hz
                          have hnil : left = [] := List.eq_nil_of_length_eq_zero HR.out.len
                          subst hnil
                          have HRE := Lib.hid (HRM.out done HCE.out)
                          have hidl : ({ r0 with copies := done } : R).id.length ≤ 140737488355328 := by
                            show r0.id.length ≤ _
                            rw [HIDR.out]; omega
                          have HIDL := Lib.hid hidl
                          generalize hrr : ({ r0 with copies := done } : R) = rr at *
                          have hcp : rr.copies.length = done.length := by rw [← hrr]
                          have HCP := Lib.hid hcp
                          clear hrr hidl hcp
                          go_wp2_with (first
                            | (refine wpList_load_mid_g (by rfl) 26 (.tmp 2) rfl w.heap.size 0 rfl (rr.cells C capC) _ (rangeRec HD.out.blk) Try.underlying26 rfl (by rw [R.size_]; kernel_rfl) ?_)
                            | fail)
                          refine (may_any rr C capC _ HIDL.out (by rw [HCP.out]; omega) (own_cat HD.out.own)).mono ?_
                          rintro e x ⟨rfl, hb⟩
                          have HDx := Lib.hid (HD.out.to hb)
                          clear hb hrd
                          cases hmy : rr.may
                          · have HNN : Hid (decodeM bs = none) := Lib.hid (by rw [HDM.out, HRE.out, hmy]; rfl)
                            have HMY := Lib.hid hmy
                            clear hmy
                            go_wp2_with fail
                            refine (sure_no _).mono ?_
                            rintro e x' ⟨rfl, rfl⟩
                            exact dec_none HNN.out HDx.out rfl rfl
                          · have HNN : Hid (decodeM bs = some rr) := Lib.hid (by rw [HDM.out, HRE.out, hmy]; rfl)
                            have HMY := Lib.hid hmy
                            clear hmy
                            go_wp2_with fail
                            refine (sure_yes _).mono ?_
                            rintro e x' ⟨rfl, rfl⟩
                            go_wp2_with (first
                              | (refine wpList_load_mid rfl 26 (.tmp 2) rfl w.heap.size 0 rfl (rr.cells C capC) _ (rangeRec HDx.out.blk) Try.underlying26 rfl (by rw [R.size_]; kernel_rfl) ?_)
                              | (refine wpList_store_whole rfl 26 (.tmp 2) (.tmp 81) rfl w.heap.size 26 _ (rr.cells C capC) rfl rfl HDx.out.blk rfl (by rw [R.size_]; kernel_rfl) (rec_one _ _ _) ?_
                                 intro y hb hg hz
                                 have HDy := Lib.hid (HDx.out.turned hg hb rfl)
                                 have ec := HDy.out.err.cell 0
                                 have ez := HDy.out.err.frozen 0
                                 simp only [List.getElem?_toArray, List.getElem?_cons_zero] at ec
                                 clear hb hg hz))
                            rw [blk_set_self HDy.out.err 0 (.int .i64 0) rfl]
                            exact dec_some HNN.out HDy.out rfl rfl
                        · obtain ⟨c, r', rfl⟩ : ∃ c r', left = c :: r' := by
                            cases left with
                            | nil => exact absurd HR.out.len.symm hz
                            | cons c r' => exact ⟨c, r', rfl⟩
                          have HNN : Hid (decodeM bs = none) := Lib.hid (by rw [HDM.out]; exact restM_left (by rw [HKK.out]; exact HCE.out))
                          have hzb : ((q1 : Int) == 0) = false := by simp; omega
                          go_wp2_with
                            (go_at_call 87
                             refine (sure_no _).mono ?_
                             rintro e x' ⟨rfl, rfl⟩)
                          exact dec_none HNN.out HD.out rfl rfl
                  · have HR : Hid (decodeM bs = none) := Lib.hid (by rw [HDM.out]; exact restM_short (by have := HR2.out.len; omega))
                    refine (number_no_ 1 HR10.out (by omega)).mono ?_
                    rintro e x ⟨rfl, rfl⟩
                    rw [HR.out]
                    exact dec_fails HD10.out rfl rfl
                · have HR : Hid (decodeM bs = none) := Lib.hid (by rw [HDM.out]; exact restM_short (by rw [HFL.out]; omega))
                  rw [show decide ((f : Int) < 4) = false from decide_eq_false (by omega)]
                  refine (sure_no _).mono ?_
                  rintro e x ⟨rfl, rfl⟩
                  rw [HR.out]
                  exact dec_fails HD10.out rfl rfl
              · have HR : Hid (decodeM bs = none) := Lib.hid (by rw [HDM.out]; exact restM_short (by have := HR2.out.len; omega))
                refine (number_no_ 1 HR8.out (by omega)).mono ?_
                rintro e x ⟨rfl, rfl⟩
                rw [HR.out]
                exact dec_fails HD8.out rfl rfl
            · have HR : Hid (decodeM bs = none) := Lib.hid (by rw [HDM.out]; exact restM_short (by have := HR2.out.len; omega))
              refine (number_no_ 6 HR6.out (by omega)).mono ?_
              rintro e x ⟨rfl, rfl⟩
              rw [HR.out]
              exact dec_fails HD6.out rfl rfl
          · have HR : Hid (decodeM bs = none) := Lib.hid (by rw [HDM.out]; exact restM_short (by have := HR2.out.len; omega))
            refine (number_no_ 4 HR5.out (by omega)).mono ?_
            rintro e x ⟨rfl, rfl⟩
            rw [HR.out]
            exact dec_fails HD5.out rfl rfl
        · have HR : Hid (decodeM bs = none) := Lib.hid (by rw [HDM.out]; exact restM_short (by have := HR2.out.len; omega))
          refine wp_region_any (by kernel_rfl) ?_
          change wpAny _ _ _ _ _ _ _ (World.drew _)
          refine wpAny_ready (rs := [0, 2]) (by kernel_rfl) (by simp) ?_
          refine AllReady.cons rfl (fun K hK => ?_) ?_
          · go_simp
            refine hK _ _ ?_
            clear hK K
            refine wpAny_ready (rs := [1, 2]) (by kernel_rfl) (by simp) ?_
            refine AllReady.cons rfl (fun K hK => ?_) ?_
            · go_simp
              refine hK _ _ ?_
              clear hK K
              refine wpAny_ready (rs := [2]) (by kernel_rfl) (by simp) ?_
              refine AllReady.cons rfl (fun K hK => ?_) ?_
              · go_simp
                refine hK _ _ ?_
                clear hK K
                refine wpAny_ready (rs := [3]) (by kernel_rfl) (by simp) ?_
                refine AllReady.cons rfl (fun K hK => ?_) ?_
                · go_simp
                  refine (take_bad _ _ _ _ 32 _ HR3'.out.drew.blk (by omega)).mono ?_
                  (rintro e w4 ⟨rfl, rfl⟩; rw [HR.out]; exact dec_fails HD3'.out.drew rfl rfl)
                exact AllReady.nil
              exact AllReady.nil
            refine AllReady.cons rfl (fun K hK => ?_) ?_
            · go_simp
              refine hK _ _ ?_
              clear hK K
              refine wpAny_ready (rs := [1, 3]) (by kernel_rfl) (by simp) ?_
              refine AllReady.cons rfl (fun K hK => ?_) ?_
              · go_simp
                refine hK _ _ ?_
                clear hK K
                refine wpAny_ready (rs := [3]) (by kernel_rfl) (by simp) ?_
                refine AllReady.cons rfl (fun K hK => ?_) ?_
                · go_simp
                  refine (take_bad _ _ _ _ 32 _ HR3'.out.drew.blk (by omega)).mono ?_
                  (rintro e w4 ⟨rfl, rfl⟩; rw [HR.out]; exact dec_fails HD3'.out.drew rfl rfl)
                exact AllReady.nil
              refine AllReady.cons rfl (fun K hK => ?_) ?_
              · go_simp
                refine (take_bad _ _ _ _ 32 _ HR3'.out.drew.blk (by omega)).mono ?_
                (rintro e w4 ⟨rfl, rfl⟩; rw [HR.out]; exact dec_fails HD3'.out.drew rfl rfl)
              exact AllReady.nil
            exact AllReady.nil
          refine AllReady.cons rfl (fun K hK => ?_) ?_
          · go_simp
            refine hK _ _ ?_
            clear hK K
            refine wpAny_ready (rs := [0, 3]) (by kernel_rfl) (by simp) ?_
            refine AllReady.cons rfl (fun K hK => ?_) ?_
            · go_simp
              refine hK _ _ ?_
              clear hK K
              refine wpAny_ready (rs := [1, 3]) (by kernel_rfl) (by simp) ?_
              refine AllReady.cons rfl (fun K hK => ?_) ?_
              · go_simp
                refine hK _ _ ?_
                clear hK K
                refine wpAny_ready (rs := [3]) (by kernel_rfl) (by simp) ?_
                refine AllReady.cons rfl (fun K hK => ?_) ?_
                · go_simp
                  refine (take_bad _ _ _ _ 32 _ HR3'.out.drew.blk (by omega)).mono ?_
                  (rintro e w4 ⟨rfl, rfl⟩; rw [HR.out]; exact dec_fails HD3'.out.drew rfl rfl)
                exact AllReady.nil
              refine AllReady.cons rfl (fun K hK => ?_) ?_
              · go_simp
                refine (take_bad _ _ _ _ 32 _ HR3'.out.drew.blk (by omega)).mono ?_
                (rintro e w4 ⟨rfl, rfl⟩; rw [HR.out]; exact dec_fails HD3'.out.drew rfl rfl)
              exact AllReady.nil
            refine AllReady.cons rfl (fun K hK => ?_) ?_
            · go_simp
              refine (take_bad _ _ _ _ 32 _ HR3'.out.drew.blk (by omega)).mono ?_
              (rintro e w4 ⟨rfl, rfl⟩; rw [HR.out]; exact dec_fails HD3'.out.drew rfl rfl)
            exact AllReady.nil
          exact AllReady.nil
      · have HR : Hid (decodeM bs = none) := Lib.hid (by rw [HDM.out]; exact restM_short (by have := HR2.out.len; omega))
        refine (number_no_ 2 HR2'.out (by omega)).mono ?_
        rintro e w3 ⟨rfl, rfl⟩
        rw [HR.out]
        exact dec_fails HD2'.out rfl rfl
    · have HR : Hid (decodeM bs = none) := Lib.hid (by rw [HDM.out]; exact restM_short (by have := HM.out; simp; omega))
      go_wp2_with fail
      refine (take_bad _ _ _ _ _ _ HR1.out.blk (by omega)).mono ?_
      rintro e w2 ⟨rfl, rfl⟩
      rw [HR.out]
      exact dec_fails HD1.out rfl rfl
  · have HR : Hid (decodeM bs = none) := Lib.hid (by unfold decodeM; exact restM_short (by have := HM.out; simp; omega))
    go_enter_defers Try.func60, Try.ntmps60
    go_wp2_with fail
    refine (number_no_ 1 HRD.out (by omega)).mono ?_
    rintro e w1 ⟨rfl, rfl⟩
    rw [HR.out]
    exact dec_fails HD0.out rfl rfl
end Go.Proofs.Ytomncfiklkhfjaa.Rec
