/- 'Read' of a plant. -/
import Derived.Test.YtloffgoenaomkaaDoorPlAppend
namespace Go.Proofs.YtloffgoenaomkaaDoor.Pl
open Go Go.RowKit Mem
theorem run_make64 (w : World) : (Instr.makeSlice 38 (.int .i64 64) (.int .i64 64)).run Tryd.prog w = .ok (.slice (some ⟨w.heap.size, 0, none⟩) 64 64) (w.alloc (.cells (zeros.map B8).toArray 5)) := by kernel_rfl
theorem secTy : Tryd.prog.underlying 115 = some (.array 64 5) := Tryd.underlying115
theorem cellsOf_list (b : List UInt8) : cellsOf b = (b.map B8).toArray := rfl
theorem B8_one (b : List UInt8) : ∀ v ∈ b.map B8, v.oneCell' = true := by
  intro v hv
  obtain ⟨x, _, rfl⟩ := List.mem_map.1 hv
  rfl
theorem blk_range {w : World} {g : Nat} {t : TypeId} {cs : List Value} (h : Blk w g t cs.toArray) (o : Nat) (row : List Value) (hr : ∀ j v, row[j]? = some v → cs[o + j]? = some v) : w.rangeAt g o row :=
  fun j v hv => (h.cell (o + j)).trans (by simpa using hr j v hv)
/-- A row of what waits. -/
theorem WaitsAt.row {w : World} {F : Nat → Prop} {g n cap : Nat} {ws : List Wr} (h : WaitsAt w F (.slice (some ⟨g, 0, none⟩) n cap) ws) (hl : ∀ x ∈ ws, x.b.length = 64) {k : Nat} {x : Wr} (hx : ws[k]? = some x) :
    w.rangeAt g (k * 66) (wrRow x) := by
  obtain ⟨A, c, hv⟩ := Vec.shape h
  injection hv with hA hn hc
  subst hA hn hc
  refine Vec.range h _ _ fun j u hu => ?_
  have h66 := wrRow_len x (hl x (List.mem_of_getElem? hx))
  have hj : j < 66 := by have := (List.getElem?_eq_some_iff.1 hu).1; omega
  rw [flat_get (size := 66) (ws.map wrRow) (fun r hr => by
    obtain ⟨y, hy, rfl⟩ := List.mem_map.1 hr
    exact wrRow_len y (hl y hy)) k j (wrRow x) (by simp [hx]) hj]
  exact hu
theorem lastW_take {ws : List Wr} {k : Nat} {x : Wr} (hx : ws[k]? = some x) (i pl : Nat) (b : List UInt8) : lastW (ws.take (k + 1)) i pl b = if x.dev = i ∧ x.place = pl then x.b else lastW (ws.take k) i pl b := by
  obtain ⟨hk, e⟩ := List.getElem?_eq_some_iff.1 hx
  rw [List.take_succ_eq_append_getElem hk, lastW_snoc, e]
/-- What the call gives back: bytes of its own, or none. -/
def RetBy (w : World) (r : Option (List UInt8) × Int) (e : Ending) (w' : World) : Prop :=
  ∃ A N c, e = .returned (.tuple #[.slice A N c, .int .i64 r.2]) ∧ Own w' w.heap.size 5 A N c (r.1.getD []) ∧ Below w.heap.size w w'
def ReadR (w : World) (G : Nat) (ws : List Wr) (i pl : Nat) (b : List UInt8) (iv : Value) (wr : World) : Prop :=
  ∃ k : Nat, k ≤ ws.length ∧ iv = .int .i64 (k : Int) ∧ Below w.heap.size w wr ∧ Blk wr G 115 (cellsOf (lastW (ws.take k) i pl b))
set_option maxRecDepth 100000 in
set_option maxHeartbeats 4000000 in
theorem read_any {w : World} {F : Nat → Prop} {a : Nat} {p : PM} (h : PlantAt w F a p) (hok : p.Ok) (hlow : p.Low) (i k : Int) :
    Calls Tryd.prog 26 #[.pointer (some ⟨a, 0, none⟩), .int .i64 i, .int .i64 k] w (RetBy w (p.read i k)) := by
  obtain ⟨D, T, V, W, hp⟩ := h
  have h4 := hp.c4
  obtain ⟨AW, cW, rfl⟩ := Vec.shape hp.waits
  have HB := Lib.hid hp
  have hnone : ∀ (c : Int) (w' : World), Below w.heap.size w w' → RetBy w (none, c) (.returned (.tuple #[.slice none 0 0, .int .i64 c])) w' := fun c w' hb => ⟨_, _, _, rfl, Own.nil_ _ _ _, hb⟩
  have HN := Lib.hid hnone
  clear hnone
  cases hoff : p.off with
  | true =>
    have e : p.read i k = (none, 2) := by unfold PM.read; rw [hoff]; rfl
    rw [e]
    rw [hoff] at h4
    clear hp hoff e
    go_enter Tryd.func26, Tryd.ntmps26
    go_wp2_with fail
    go_ret2
    exact HN.out _ _ (Below.refl _ _)
  | false =>
    rw [hoff] at h4
    have HOF := Lib.hid hoff
    clear hoff
    rcases num_cases p i with ⟨hn, hi⟩ | ⟨j, d, rfl, hn, hj, hd⟩
    · have e : p.read i k = (none, 31) := by unfold PM.read; rw [HOF.out, hn]; rfl
      rw [e]
      clear hp hn e
      go_enter Tryd.func26, Tryd.ntmps26
      go_wp2_with fail
      refine (dev_none HB.out i hi).mono ?_
      rintro e w1 ⟨rfl, rfl⟩
      go_wp2_with fail
      go_ret2
      exact HN.out _ _ (Below.refl _ _)
    · obtain ⟨g, c1, rfl⟩ := hp.devs.form (by omega)
      obtain ⟨m, _, hsec, k0, k1, k2, k3, k4⟩ := hp.devs.cells hd
      have HD := Lib.hid hd
      have HW := Lib.hid (hok.wc_le hd hlow.waits)
      have HRD : Hid (p.read (j : Int) k = if 0 ≤ k ∧ k < d.size p.waits j then (some (lastW p.waits j k.toNat (d.at_ k.toNat)), 0) else (none, 31)) := Lib.hid (by
        unfold PM.read
        rw [HOF.out, hn]
        simp only [hd]
        rfl)
      have hsm := Dev.size_le hok hd
      have hm12 := (hok.most j d hd).2.2
      clear hp hn hd
      by_cases hk0 : k < 0
      · have e := HRD.out.trans (if_neg (by omega))
        rw [e]
        clear e k0 k1 k2 k3 k4
        go_enter Tryd.func26, Tryd.ntmps26
        go_wp2_with fail
        refine (dev_some HB.out j hj).mono ?_
        rintro e w1 ⟨rfl, rfl⟩
        go_wp2_with fail
        go_ret2
        exact HN.out _ _ (Below.refl _ _)
      · by_cases hk1 : ((d.size p.waits j : Nat) : Int) ≤ k
        · have e := HRD.out.trans (if_neg (by omega))
          rw [e]
          clear e k0 k1 k2 k3 k4
          go_enter Tryd.func26, Tryd.ntmps26
          go_wp2_with fail
          refine (dev_some HB.out j hj).mono ?_
          rintro e w1 ⟨rfl, rfl⟩
          go_wp2_with fail
          refine (size_any HB.out.devs HD.out HW.out.1).mono ?_
          rw [HW.out.2]
          rintro e w1 ⟨rfl, kk, rfl⟩
          go_wp2_with fail
          go_ret2
          exact HN.out _ _ ((Below.refl _ _).mono (Nat.le_refl _) |> fun h => below_drewN h kk)
        · obtain ⟨pl, rfl⟩ := Int.eq_ofNat_of_zero_le (show 0 ≤ k by omega)
          have e := HRD.out.trans (if_pos (by omega))
          rw [e]
          have hpl : pl < 9223372036854775808 := by omega
          have HLK := Lib.hid (fun (wx : World) (hx : SecMap wx m d.at_) => (hx.run_lookup hpl).1)
          have HLN := Lib.hid (hsec.run_lookup hpl).2
          have HSM := Lib.hid hsec
          clear e HRD hpl hsec
          go_enter Tryd.func26, Tryd.ntmps26
          go_wp2_with fail
          refine (dev_some HB.out j hj).mono ?_
          rintro e w1 ⟨rfl, rfl⟩
          go_wp2_with fail
          refine (size_any HB.out.devs HD.out HW.out.1).mono ?_
          rw [HW.out.2]
          rintro e w1 ⟨rfl, kk, rfl⟩
          have hlk := HLK.out (w.drewN kk) (HSM.out.heap rfl)
          go_wp2_with
            (refine wpList_store_all rfl 115 (.tmp 9) (.tmp 37) rfl w.heap.size 115 _ ((d.at_ pl).map B8) rfl rfl (Blk.new _ _ _) (by rw [List.length_map, HLN.out]; rfl) (by rw [List.length_map, HLN.out]; kernel_rfl) (B8_one _) ?_
             intro w2 hb2 hg2 hz2
             have HX2 := Lib.hid hb2
             have HW2 : Hid (Below w.heap.size w w2) := Lib.hid (((below_drewN (Below.refl w.heap.size w) kk).alloc (Nat.le_refl _) _).grown hg2 (by simp) (fun q hq => by injection hq with hq; omega))
             have HB2 := Lib.hid (HB.out.mods (Mods.of_below (F := fun _ => False) HW2.out) fun q hq _ => ⟨hq, fun x => x⟩)
             have h3 := HB2.out.c3
             clear hb2 hg2 hz2)
          have hn47 : (p.waits.length : Int) ≤ 9223372036854775806 := by have := hlow.waits; omega
          clear h3 hlk k0 k1 k2 k3 k4 h4
          go_loopw [43] (fun iv wr => ReadR w w.heap.size p.waits j pl (d.at_ pl) iv wr) (fun iv _ => p.waits.length - (intOf iv).toNat)
          case atStart => exact ⟨0, Nat.zero_le _, rfl, HW2.out, by simpa [cellsOf_list, lastW] using HX2.out⟩
          case round =>
            obtain ⟨q, hq, rfl, hbl, hblk⟩ := hrel
            have HBL := Lib.hid hbl
            have HBK := Lib.hid hblk
            clear hbl hblk
            by_cases hlt : q < p.waits.length
            · obtain ⟨gw, _, _, hv, _⟩ := Vec.form HB.out.waits (by omega)
              injection hv with hA _ _
              subst hA
              obtain ⟨x, hx⟩ : ∃ x, p.waits[q]? = some x := ⟨_, List.getElem?_eq_getElem hlt⟩
              have hx64 := hok.wlen x (List.mem_of_getElem? hx)
              have HPr := Lib.hid (HB.out.mods (Mods.of_below (F := fun _ => False) HBL.out) fun q hq _ => ⟨hq, fun x => x⟩)
              have HRG := Lib.hid (HPr.out.waits.row hok.wlen hx)
              have HLT := Lib.hid (lastW_take hx j pl (d.at_ pl))
              have HX64 := Lib.hid hx64
              clear hx64 hx
              have HL64 : Hid ((lastW (p.waits.take q) j pl (d.at_ pl)).length = 64) := Lib.hid (lastW_len _ _ (fun y hy => hok.wlen y (List.mem_of_mem_take hy)) HLN.out)
              have hcases : (x.dev ≠ j) ∨ (x.dev = j ∧ x.place ≠ pl) ∨ (x.dev = j ∧ x.place = pl) := by omega
              rcases hcases with hc | ⟨hc, hc2⟩ | ⟨hc, hc2⟩
              · have d0 : ((x.dev : Int) == (j : Int)) = false := by simp; omega
                go_wp2_with
                  (refine wpList_load_mid rfl 117 (.tmp 45) rfl gw (q * 66) rfl (wrRow x) _ HRG.out Tryd.underlying117 rfl (by rw [wrRow_len _ HX64.out]; kernel_rfl) ?_
                   go_wp2_with
                     (refine wpList_store_all rfl 117 (.tmp 11) (.tmp 46) rfl wr.heap.size 117 Tryd.zeroCells117.toList (wrRow x) rfl rfl (Blk.new wr _ _) (by rw [wrRow_len _ HX64.out]; kernel_rfl) (by rw [wrRow_len _ HX64.out]; kernel_rfl) (wrRow_one _) ?_
                      intro w3 hb3 hg3 hz3
                      have e0 := (hb3.cell 0).trans (show _ = some (.int .i64 (x.dev : Int)) from rfl)
                      have e1 := (hb3.cell 1).trans (show _ = some (.int .i64 (x.place : Int)) from rfl)
                      have HX3 := Lib.hid hb3
                      have HW3 : Hid (Below wr.heap.size wr w3) := Lib.hid ((below_al' (.cells Tryd.zeroCells117 117)).grown hg3 (by simp) (fun q hq => by injection hq with hq; omega))
                      clear hb3 hg3 hz3))
                go_roundw
                case rel =>
                  refine ⟨q + 1, hlt, by go_num, HBL.out.trans (HW3.out.mono HBL.out.size), ?_⟩
                  rw [HLT.out, if_neg (by omega)]
                  exact HBK.out.below_ HW3.out
                case measure => simp [intOf]; omega
              · have d0 : ((x.dev : Int) == (j : Int)) = true := by simp; omega
                have d1 : ((x.place : Int) == (pl : Int)) = false := by simp; omega
                have HC := Lib.hid hc
                clear hc
                go_wp2_with
                  (refine wpList_load_mid rfl 117 (.tmp 45) rfl gw (q * 66) rfl (wrRow x) _ HRG.out Tryd.underlying117 rfl (by rw [wrRow_len _ HX64.out]; kernel_rfl) ?_
                   go_wp2_with
                     (refine wpList_store_all rfl 117 (.tmp 11) (.tmp 46) rfl wr.heap.size 117 Tryd.zeroCells117.toList (wrRow x) rfl rfl (Blk.new wr _ _) (by rw [wrRow_len _ HX64.out]; kernel_rfl) (by rw [wrRow_len _ HX64.out]; kernel_rfl) (wrRow_one _) ?_
                      intro w3 hb3 hg3 hz3
                      have e0 := (hb3.cell 0).trans (show _ = some (.int .i64 (x.dev : Int)) from rfl)
                      have e1 := (hb3.cell 1).trans (show _ = some (.int .i64 (x.place : Int)) from rfl)
                      have HX3 := Lib.hid hb3
                      have HW3 : Hid (Below wr.heap.size wr w3) := Lib.hid ((below_al' (.cells Tryd.zeroCells117 117)).grown hg3 (by simp) (fun q hq => by injection hq with hq; omega))
                      clear hb3 hg3 hz3))
                go_roundw
                case rel =>
                  refine ⟨q + 1, hlt, by go_num, HBL.out.trans (HW3.out.mono HBL.out.size), ?_⟩
                  rw [HLT.out, if_neg (by have := HC.out; omega)]
                  exact HBK.out.below_ HW3.out
                case measure => simp [intOf]; omega
              · have d0 : ((x.dev : Int) == (j : Int)) = true := by simp; omega
                have d1 : ((x.place : Int) == (pl : Int)) = true := by simp; omega
                have HC := Lib.hid hc
                have HC2 := Lib.hid hc2
                clear hc hc2
                go_wp2_with
                  (refine wpList_load_mid rfl 117 (.tmp 45) rfl gw (q * 66) rfl (wrRow x) _ HRG.out Tryd.underlying117 rfl (by rw [wrRow_len _ HX64.out]; kernel_rfl) ?_
                   go_wp2_with
                     (refine wpList_store_all rfl 117 (.tmp 11) (.tmp 46) rfl wr.heap.size 117 Tryd.zeroCells117.toList (wrRow x) rfl rfl (Blk.new wr _ _) (by rw [wrRow_len _ HX64.out]; kernel_rfl) (by rw [wrRow_len _ HX64.out]; kernel_rfl) (wrRow_one _) ?_
                      intro w3 hb3 hg3 hz3
                      have e0 := (hb3.cell 0).trans (show _ = some (.int .i64 (x.dev : Int)) from rfl)
                      have e1 := (hb3.cell 1).trans (show _ = some (.int .i64 (x.place : Int)) from rfl)
                      have HX3 := Lib.hid hb3
                      have HW3 : Hid (Below wr.heap.size wr w3) := Lib.hid ((below_al' (.cells Tryd.zeroCells117 117)).grown hg3 (by simp) (fun q hq => by injection hq with hq; omega))
                      clear hb3 hg3 hz3
                      go_wp2_with
                        (refine wpList_load_mid rfl 115 (.tmp 57) rfl wr.heap.size 2 rfl (x.b.map B8) _ (blk_range HX3.out 2 _ (fun j v hv => by rw [Nat.add_comm]; exact hv)) secTy rfl (by rw [List.length_map, HX64.out]; kernel_rfl) ?_
                         refine wpList_store_all rfl 115 (.tmp 9) (.tmp 58) rfl w.heap.size 115 ((lastW (p.waits.take q) j pl (d.at_ pl)).map B8) (x.b.map B8) rfl rfl (HBK.out.below_ HW3.out) (by rw [List.length_map, List.length_map, HL64.out, HX64.out]) (by rw [List.length_map, HX64.out]; kernel_rfl) (B8_one _) ?_
                         intro w4 hb4 hg4 hz4
                         have HX4 := Lib.hid hb4
                         have HG4 := Lib.hid hg4
                         clear hb4 hg4 hz4)))
                go_roundw
                case rel =>
                  refine ⟨q + 1, hlt, by go_num, (HBL.out.trans (HW3.out.mono HBL.out.size)).grown HG4.out (Nat.le_trans HBL.out.size HW3.out.size) (fun z hz => by injection hz with hz; omega), ?_⟩
                  rw [HLT.out, if_pos ⟨HC.out, HC2.out⟩]
                  exact HX4.out
                case measure => simp [intOf]; omega
            · obtain rfl : q = p.waits.length := by omega
              have HL64 : Hid ((lastW (p.waits.take p.waits.length) j pl (d.at_ pl)).length = 64) := Lib.hid (lastW_len _ _ (fun y hy => hok.wlen y (List.mem_of_mem_take hy)) HLN.out)
              have HB64 := Lib.hid ((HBK.out.alloc (.cells (zeros.map B8).toArray 5)).bat)
              have hmk := run_make64
              go_wp2_with
                (refine wpList_copy_in rfl (.tmp 61) (.tmp 62) _ rfl _ byteTy wr.heap.size 0 64 64 5 (zeros.map B8) rfl (Blk.new wr _ _) (some ⟨w.heap.size, 0, none⟩) 64 64 (lastW (p.waits.take p.waits.length) j pl (d.at_ pl)) rfl HB64.out HL64.out (by omega) rfl (by rw [List.length_map, zeros_len]; omega) ?_
                 intro w5 hb5 hg5 hz5
                 have HX5 := Lib.hid hb5
                 have HG5 := Lib.hid hg5
                 clear hb5 hg5 hz5)
              go_ret2
              refine ⟨_, _, _, rfl, ?_, ?_⟩
              · have hb := HX5.out
                rw [List.take_length] at hb
                exact Own.of_blk (bs := lastW p.waits j pl (d.at_ pl)) (by
                  rw [show (0 + 64 : Nat) = 64 from rfl, List.drop_eq_nil_of_le (by rw [List.length_map, zeros_len]; omega)] at hb
                  simpa [cellsOf_list] using hb) HBL.out.size (by have := HL64.out; rw [List.take_length] at this; exact this) (by decide)
              · exact (HBL.out.alloc HBL.out.size _).grown HG5.out (by have := HBL.out.size; simp; omega) (fun z hz => by injection hz with hz; subst hz; exact HBL.out.size)
end Go.Proofs.YtloffgoenaomkaaDoor.Pl
