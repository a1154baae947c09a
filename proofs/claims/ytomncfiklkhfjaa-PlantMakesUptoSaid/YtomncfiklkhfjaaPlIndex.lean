/- The closure of 'Flush', and 'slices.IndexFunc' with it. -/
import Derived.Test.YtomncfiklkhfjaaPlSettle
namespace Go.Proofs.Ytomncfiklkhfjaa.Pl
open Go Go.RowKit Mem
/-- What the closure of 'Flush' reads: the device's number, the plant, its devices. -/
structure Ctx (w : World) (F : Nat → Prop) (a b1 b2 : Nat) (pc : List Value) (V : Value) (j : Nat) (wc : Nat → Nat) (ds : List Dev) : Prop where
  b1 : Blk w b1 3 #[.int .i64 (j : Int)]
  b2 : Blk w b2 45 #[.pointer (some ⟨a, 0, none⟩)]
  pl : Blk w a 93 pc.toArray
  v2 : pc[2]? = some V
  devs : DevsAt w F V ds wc
theorem Ctx.kept {w w' : World} {F : Nat → Prop} {a b1 b2 : Nat} {pc : List Value} {V : Value} {j : Nat} {wc : Nat → Nat} {ds ds' : List Dev} (h : Ctx w F a b1 b2 pc V j wc ds) (hk : CellsKept w w') (hd : DevsAt w' F V ds' wc) : Ctx w' F a b1 b2 pc V j wc ds' :=
  ⟨hk.blk h.b1 (by decide), hk.blk h.b2 (by decide), hk.blk h.pl (by decide), h.v2, hd⟩
/-- May this write be made to last? -/
def MaySet (ds : List Dev) (x : Wr) : Prop := ∃ d, ds[x.dev]? = some d ∧ x.place < 4096 ∧ (if d.tape then x.place = d.has.length else x.place < d.has.length) ∧ d.has.length ≤ 4096
set_option maxRecDepth 100000 in
set_option maxHeartbeats 2000000 in
theorem closure_any {w : World} {F : Nat → Prop} {a b1 b2 : Nat} {pc : List Value} {V : Value} {j : Nat} {wc : Nat → Nat} {ds : List Dev} (h : Ctx w F a b1 b2 pc V j wc ds) (x : Wr) (h64 : x.b.length = 64) (hs : x.dev = j → MaySet ds x) :
    Calls Try.prog 69 #[.agg (wrRow x).toArray, .pointer (some ⟨b1, 0, none⟩), .pointer (some ⟨b2, 0, none⟩)] w fun e w' =>
      e = .returned (.bool (x.dev == j)) ∧ Ctx w' F a b1 b2 pc V j wc (if x.dev = j then settle ds x else ds) ∧ CellsKept w w' ∧ Mods w.heap.size F w w' := by
  have HX := Lib.hid (Blk.new w 104 (wrRow x).toArray)
  have hx0 := (HX.out.cell 0).trans (show _ = some (.int .i64 (x.dev : Int)) from rfl)
  have H := Lib.hid h
  have hc1 := (h.b1.cell 0).trans (show _ = some (.int .i64 (j : Int)) from rfl)
  have hc2 := (h.b2.cell 0).trans (show _ = some (.pointer (some ⟨a, 0, none⟩)) from rfl)
  have hl1 := h.b1.lt
  have hl2 := h.b2.lt
  clear h
  by_cases hj : x.dev = j
  · obtain ⟨d, hd, hpl, hat, hm⟩ := hs hj
    have HD := Lib.hid hd
    have HAT := Lib.hid hat
    have hq : ((x.dev : Int) == (j : Int)) = true := by simp; omega
    have HJ := Lib.hid hj
    rw [if_pos hj, show (x.dev == j) = true by simpa using hj]
    clear hs hd hat hj
    go_enter Try.func69, Try.ntmps69
    go_wp2_with
      (refine wpList_load_mid rfl 104 (.tmp 3) rfl w.heap.size 0 rfl (wrRow x) _ (blk_range HX.out 0 _ (fun q v hv => by rw [Nat.zero_add]; exact hv)) Try.underlying104 rfl (by rw [wrRow_len _ h64]; kernel_rfl) ?_
       go_wp2_with fail)
    have HW : Hid (Below w.heap.size w (w.alloc (.cells (wrRow x).toArray 104))) := Lib.hid (below_al' _)
    have hv : (w.alloc (.cells (wrRow x).toArray 104)).cell? ⟨a, 2, none⟩ = some V := ((H.out.pl.alloc _).cell 2).trans (by simpa using H.out.v2)
    have hdv : DevsAt (w.alloc (.cells (wrRow x).toArray 104)) F V ds wc := H.out.devs.mods (Mods.of_below (F := fun _ => False) HW.out) fun q hq _ => ⟨hq, fun x => x⟩
    refine (settle_any hv hdv x HD.out h64 hpl HAT.out hm).mono ?_
    rintro e w2 ⟨rfl, hd2, hk2, hm2⟩
    have HD2 := Lib.hid hd2
    have HK2 := Lib.hid ((CellsKept.below HW.out).trans hk2)
    have HM2 : Hid (Mods w.heap.size F w w2) := Lib.hid ((Mods.of_below HW.out).trans (hm2.mono (by simp) fun _ _ h => h))
    have g0 := ((hk2.blk HX.out (by decide)).cell 0).trans (show _ = some (.int .i64 (x.dev : Int)) from rfl)
    have g1 := ((HK2.out.blk H.out.b1 (by decide)).cell 0).trans (show _ = some (.int .i64 (j : Int)) from rfl)
    clear hd2 hk2 hm2 hv hdv hx0 hc1 hc2
    go_wp2_with fail
    go_ret
    exact ⟨rfl, H.out.kept HK2.out HD2.out, HK2.out, HM2.out⟩
  · have hq : ((x.dev : Int) == (j : Int)) = false := by simp; omega
    rw [if_neg hj, show (x.dev == j) = false by simpa using hj]
    clear hs hj
    go_enter Try.func69, Try.ntmps69
    go_wp2_with fail
    go_ret
    have HW : Below w.heap.size w (w.alloc (.cells (wrRow x).toArray 104)) := below_al' _
    exact ⟨rfl, H.out.kept (CellsKept.below HW) (H.out.devs.mods (Mods.of_below (F := fun _ => False) HW) fun q hq _ => ⟨hq, fun x => x⟩), CellsKept.below HW, Mods.of_below HW⟩
def clo (b1 b2 : Nat) : Value := .func (.func 69) #[] #[.pointer (some ⟨b1, 0, none⟩), .pointer (some ⟨b2, 0, none⟩)]
def IdxR (w : World) (F : Nat → Prop) (a b1 b2 : Nat) (pc : List Value) (V : Value) (j : Nat) (wc : Nat → Nat) (ds : List Dev) (ws : List Wr) (iv : Value) (wr : World) : Prop :=
  ∃ k : Nat, k ≤ ws.length ∧ iv = .int .i64 (k : Int) ∧ (∀ x ∈ ws.take k, x.dev ≠ j) ∧ Ctx wr F a b1 b2 pc V j wc ds ∧ CellsKept w wr ∧ Mods w.heap.size F w wr
set_option maxRecDepth 100000 in
set_option maxHeartbeats 2000000 in
theorem index_any {w : World} {F Fw : Nat → Prop} {a b1 b2 : Nat} {pc : List Value} {V v : Value} {j : Nat} {wc : Nat → Nat} {ds : List Dev} {ws : List Wr} (h : Ctx w F a b1 b2 pc V j wc ds) (hw : WaitsAt w Fw v ws) (h64 : ∀ x ∈ ws, x.b.length = 64)
    (hs : ∀ (k : Nat) (x : Wr), ws[k]? = some x → x.dev = j → (∀ y ∈ ws.take k, y.dev ≠ j) → MaySet ds x) (hl : ws.length ≤ 1000000000) :
    Calls Try.prog 89 #[v, clo b1 b2] w fun e w' =>
      (((∀ x ∈ ws, x.dev ≠ j) ∧ e = .returned (.int .i64 (-1)) ∧ Ctx w' F a b1 b2 pc V j wc ds) ∨ ∃ (k : Nat) (x : Wr), ws[k]? = some x ∧ x.dev = j ∧ (∀ y ∈ ws.take k, y.dev ≠ j) ∧ e = .returned (.int .i64 (k : Int)) ∧ Ctx w' F a b1 b2 pc V j wc (settle ds x)) ∧ CellsKept w w' ∧ Mods w.heap.size F w w' := by
  have H := Lib.hid h
  have HW := Lib.hid hw
  have H64 := Lib.hid h64
  have HS := Lib.hid hs
  obtain ⟨A, cap, rfl⟩ := Vec.shape hw
  have hl' : (ws.length : Int) ≤ 9223372036854775806 := by omega
  clear h hw h64 hs
  unfold clo
  go_enter Try.func89, Try.ntmps89
  go_wp2
  go_loopw [8] (fun iv wr => IdxR w F a b1 b2 pc V j wc ds ws iv wr) (fun iv _ => ws.length - (intOf iv).toNat)
  case atStart => exact ⟨0, Nat.zero_le _, rfl, by simp, H.out, CellsKept.refl _, Mods.refl _ _ _⟩
  case round =>
    obtain ⟨k, hk, rfl, hno, hc, hkp, hmo⟩ := hrel
    have HNO := Lib.hid hno
    have HC := Lib.hid hc
    have HKP := Lib.hid hkp
    have HMO := Lib.hid hmo
    clear hno hc hkp hmo
    by_cases hlt : k < ws.length
    · obtain ⟨gw, cap2, cur2, hv, hrest⟩ := Vec.form HW.out (by omega)
      injection hv with hA _ hcp
      subst hA
      clear hcp hrest
      obtain ⟨x, hx⟩ : ∃ x, ws[k]? = some x := ⟨_, List.getElem?_eq_getElem hlt⟩
      have hx64 := H64.out x (List.mem_of_getElem? hx)
      have HRG := Lib.hid (WaitsAt.row (HKP.out.vec HW.out (by decide)) H64.out hx)
      have HX := Lib.hid hx
      have HX64 := Lib.hid hx64
      clear hx hx64
      go_wp2_with
        (refine wpList_load_mid rfl 104 (.tmp 14) rfl gw (k * 66) rfl (wrRow x) _ HRG.out Try.underlying104 rfl (by rw [wrRow_len _ HX64.out]; kernel_rfl) ?_
         go_wp2_with fail)
      refine (closure_any HC.out x HX64.out (fun e => HS.out k x HX.out e HNO.out)).mono ?_
      rintro e w2 ⟨rfl, hc2, hk2, hm2⟩
      have HC2 := Lib.hid hc2
      have HK2 := Lib.hid (HKP.out.trans hk2)
      have HM2 := Lib.hid (HMO.out.trans (hm2.mono HMO.out.size fun _ _ h => h))
      clear hc2 hk2 hm2
      by_cases hj : x.dev = j
      · have hq : (x.dev == j) = true := by simpa using hj
        have HJ := Lib.hid hj
        have hc3 := HC2.out
        rw [if_pos hj] at hc3
        have HC3 := Lib.hid hc3
        rw [hq]
        clear hj hc3 hq
        go_wp2_with fail
        go_ret
        exact ⟨.inr ⟨k, x, HX.out, HJ.out, HNO.out, rfl, HC3.out⟩, HK2.out, HM2.out⟩
      · have hq : (x.dev == j) = false := by simpa using hj
        have HJ := Lib.hid hj
        have hc3 := HC2.out
        rw [if_neg hj] at hc3
        have HC3 := Lib.hid hc3
        rw [hq]
        clear hj hc3 hq
        go_wp2_with fail
        go_roundw
        case rel =>
          refine ⟨k + 1, hlt, by go_num, fun y hy => ?_, HC3.out, HK2.out, HM2.out⟩
          obtain ⟨hk1, e⟩ := List.getElem?_eq_some_iff.1 HX.out
          rw [List.take_succ_eq_append_getElem hk1, e] at hy
          rcases List.mem_append.1 hy with hy | hy
          · exact HNO.out y hy
          · simp at hy
            subst hy
            exact HJ.out
        case measure => simp [intOf]; omega
    · obtain rfl : k = ws.length := by omega
      go_wp2_with fail
      go_ret
      have hn := HNO.out
      rw [List.take_length] at hn
      exact ⟨.inl ⟨hn, rfl, HC.out⟩, HKP.out, HMO.out⟩
end Go.Proofs.Ytomncfiklkhfjaa.Pl
