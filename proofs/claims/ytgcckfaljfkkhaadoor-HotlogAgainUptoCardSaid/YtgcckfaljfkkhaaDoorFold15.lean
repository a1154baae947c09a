/- 'hotlog.Open': a disk of which these places are in use. -/
import Derived.Test.YtgcckfaljfkkhaaDoorHotApp
namespace Go.Proofs.YtgcckfaljfkkhaaDoor.Hot
open Go Go.RowKit Mem Pl Disk Crc _root_.Go.Proofs.YtgcckfaljfkkhaaDoor.Frame
/-- A place as it is handed in. -/
structure Plc where
  dev : Int
  at_ : Int
  len : Int
  bad : Bool
def Plc.cells (p : Plc) : List Value := [.int .i64 p.dev, .int .i64 p.at_, .int .i64 p.len, .bool p.bad]
def Plc.pc (p : Plc) : Pc := (p.at_.toNat, p.len.toNat)
def inI (z : Int) : Prop := -9223372036854775808 ≤ z ∧ z < 9223372036854775808
/-- A place lies there. -/
def PlAt (w : World) (q : Addr) (p : Plc) : Prop :=
  w.cell? q = some (.int .i64 p.dev) ∧ w.cell? ⟨q.block, q.off + 1, none⟩ = some (.int .i64 p.at_) ∧ w.cell? ⟨q.block, q.off + 2, none⟩ = some (.int .i64 p.len) ∧ w.cell? ⟨q.block, q.off + 3, none⟩ = some (.bool p.bad)
theorem PlAt.below {w w' : World} {q : Addr} {p : Plc} (h : PlAt w q p) (hb : Below w.heap.size w w') : PlAt w' q p := by
  obtain ⟨h0, h1, h2, h3⟩ := h
  exact ⟨(hb.cell (cell_lt h0)).trans h0, (hb.cell (cell_lt h1)).trans h1, (hb.cell (cell_lt h2)).trans h2, (hb.cell (cell_lt h3)).trans h3⟩
/-- A row of places lies there. -/
def PlsAt (w : World) (A : Option Addr) (ps : List Plc) : Prop := ∀ k p, ps[k]? = some p → ∃ ad, A = some ad ∧ inI p.at_ ∧ PlAt w (ad.add (k * 4)) p
theorem PlsAt.below {w w' : World} {A : Option Addr} {ps : List Plc} (h : PlsAt w A ps) (hb : Below w.heap.size w w') : PlsAt w' A ps := fun k p hp => by
  obtain ⟨ad, hA, hi, hc⟩ := h k p hp
  exact ⟨ad, hA, hi, hc.below hb⟩
open Classical in
/-- One more place taken, if it may be. -/
noncomputable def openStep (dev nseg : Nat) (r : Option (List Pc)) (p : Plc) : Option (List Pc) := match r with
  | none => none
  | some used => if placeM dev nseg p.dev p.at_ p.len = true ∧ ∀ k, p.pc.1 ≤ k → k < p.pc.1 + p.pc.2 → ¬ Occ used k then some (used ++ [p.pc]) else none
noncomputable def openM (dev nseg : Nat) (ps : List Plc) : Option (List Pc) := ps.foldl (openStep dev nseg) (some [])
theorem openStep_none (dev nseg : Nat) (ps : List Plc) : ps.foldl (openStep dev nseg) none = none := by
  induction ps with
  | nil => rfl
  | cons p ps ih => exact ih
theorem openM_take {dev nseg : Nat} {ps : List Plc} {k : Nat} {p : Plc} (h : ps[k]? = some p) : openM dev nseg (ps.take (k + 1)) = openStep dev nseg (openM dev nseg (ps.take k)) p := by
  obtain ⟨hk, e⟩ := List.getElem?_eq_some_iff.1 h
  unfold openM
  rw [List.take_succ_eq_append_getElem hk, e, List.foldl_append]
  rfl
theorem openM_none {dev nseg : Nat} {ps : List Plc} {k : Nat} (h : openM dev nseg (ps.take k) = none) : openM dev nseg ps = none := by
  unfold openM at *
  rw [← List.take_append_drop k ps, List.foldl_append, h, openStep_none]
theorem run_makeU16 {n : Nat} (hn : n ≤ 100000) (w : World) : (Instr.makeSlice 71 (.int .i64 (n : Int)) (.int .i64 (n : Int))).run Tryd.prog w = .ok (.slice (some ⟨w.heap.size, 0, none⟩) n n) (w.alloc (.cells (Array.replicate n (u16V 0)) 81)) := by
  obtain ⟨i, hi, hz, hs, hby⟩ := u16Ty.info
  have hr := run_make (P := Tryd.prog) w 71 81 i _ u16Ty.ht hi hz .i64 .i64 n n (by omega) (by omega) (by rw [hby]; omega) (by omega)
  simp only [Int.toNat_natCast, hs] at hr
  have hcells : madeCells (Value.int .u16 0).cells (n * 1) = (Array.replicate n (u16V 0)) := by
    apply Array.ext'
    rw [show (Value.int .u16 0).cells = #[Value.int .u16 0] from rfl, toList_madeCells_one, Nat.mul_one]
    simp [u16V]
  rw [hcells] at hr
  exact hr
theorem field_disks (w : World) (A A2 : Option Addr) (n c n2 c2 : Nat) : (Instr.field 69 (.agg #[.slice A n c, .slice A2 n2 c2]) 0).run Tryd.prog w = .ok (.slice A n c) w := by
  simp [Instr.field, run_underlying (show Tryd.prog.underlying 69 = _ from Tryd.underlying69), part, isAgg, asAgg]
/-- What 'Open' answers. -/
def RetO (w : World) (a : Nat) (disks : List Nat) (dev : Int) (ps : List Plc) (e : Ending) (w' : World) : Prop :=
  Below w.heap.size w w' ∧
  ((¬ (0 ≤ dev ∧ dev < disks.length) ∧ e = .returned (.tuple #[.pointer none, .int .i64 1])) ∨
   ∃ (d n : Nat), dev = (d : Int) ∧ disks[d]? = some n ∧
    ((openM d (n / 16) ps = none ∧ e = .returned (.tuple #[.pointer none, .int .i64 31])) ∨
     ∃ used h segs, openM d (n / 16) ps = some used ∧ e = .returned (.tuple #[.pointer (some ⟨h, 0, none⟩), .int .i64 0]) ∧ HotAt w' (New w w') h a d segs used ∧ HotOk segs used ∧ segs.length = n / 16))
def OpenR (w : World) (a d nseg hb : Nat) (ps : List Plc) (iv : Value) (wr : World) : Prop :=
  ∃ (i : Nat) (segs : List Nat) (used : List Pc), i ≤ ps.length ∧ iv = .int .i64 (i : Int) ∧ openM d nseg (ps.take i) = some used ∧ HotAt wr (New w wr) hb a d segs used ∧ HotOk segs used ∧ segs.length = nseg ∧ used.length = i ∧ Below w.heap.size w wr
set_option maxRecDepth 100000 in
set_option maxHeartbeats 8000000 in
theorem hopen_any {w : World} {F : Nat → Prop} {a : Nat} {pm : PM} (hp : PlantAt w F a pm) (hok : pm.Ok) (dev : Int) (A : Option Addr) (L cap : Nat) (ps : List Plc) (hps : PlsAt w A ps) (hl : ps.length = L) (hL : L ≤ 100000000) :
    Calls Tryd.prog 12 #[.pointer (some ⟨a, 0, none⟩), .int .i64 dev, .slice A L cap] w (RetO w a pm.disks dev ps) := by
  have HP := Lib.hid hp
  have HOK := Lib.hid hok
  have HPS := Lib.hid hps
  have HL := Lib.hid hl
  have hd12 : pm.disks.length ≤ 12 := by have := hok.shape; have := hok.n12; omega
  have HSH := Lib.hid (shape_any hp hok)
  have hfld := field_disks
  clear hp hok hps hl
  by_cases hlo : dev < 0
  · go_enter Tryd.func12, Tryd.ntmps12
    go_wp2_with fail
    refine HSH.out.mono ?_
    rintro e w1 ⟨D, T, rfl, hv1, hv1', hb1⟩
    obtain ⟨AD, cD, rfl⟩ := hv1.shape
    obtain ⟨AT, cT, rfl⟩ := hv1'.shape
    have HB1 := Lib.hid hb1
    clear hv1 hv1' hb1
    go_wp2_with fail
    go_ret2
    exact ⟨HB1.out, .inl ⟨by omega, rfl⟩⟩
  · by_cases hhi : dev < pm.disks.length
    · obtain ⟨d, rfl⟩ := Int.eq_ofNat_of_zero_le (show 0 ≤ dev by omega)
      have hdl : d < pm.disks.length := by omega
      obtain ⟨n, hn⟩ : ∃ n, pm.disks[d]? = some n := ⟨_, List.getElem?_eq_getElem hdl⟩
      have hn4 : n ≤ 4096 := by
        have hdd : d < pm.devs.length := by have := HOK.out.shape; omega
        have := HOK.out.most d _ (List.getElem?_eq_getElem hdd)
        rw [List.getElem?_append_left hdl, hn] at this
        have h1 := this.1
        injection h1 with h1
        omega
      have HN := Lib.hid hn
      have hmk := run_makeU16 (n := n / 16) (by omega)
      have hcast : ((n / 16 : Nat) : Int) = (n : Int) / 16 := by omega
      rw [hcast] at hmk
      have hge : ¬ (pm.disks.length : Int) ≤ (d : Int) := by omega
      have hge1 : decide ((pm.disks.length : Int) ≤ (d : Int)) = false := decide_eq_false hge
      have hge2 : decide (pm.disks.length ≤ d) = false := decide_eq_false (by omega)
      have hge3 : decide ((d : Int) < 0) = false := decide_eq_false (by omega)
      clear hn hcast
      go_enter Tryd.func12, Tryd.ntmps12
      go_wp2_with fail
      refine HSH.out.mono ?_
      rintro e w1 ⟨D, T, rfl, hv1, hv1', hb1⟩
      obtain ⟨AD, cD, rfl⟩ := hv1.shape
      obtain ⟨AT, cT, rfl⟩ := hv1'.shape
      obtain ⟨gD, hA, hcd⟩ := hv1.cell d _ (by rw [List.getElem?_map, HN.out]; rfl)
      subst hA
      have hcd' : w1.cell? ⟨gD, d, none⟩ = some (.int .i64 (n : Int)) := hcd
      have HB1 := Lib.hid hb1
      clear hv1 hv1' hb1 hcd
      go_wp2_with fail
      have hm2 : Below w1.heap.size w1 (w1.alloc (.cells (Array.replicate (n / 16) (u16V 0)) 81)) := below_al' _
      have hk2 := Blk.new w1 81 (Array.replicate (n / 16) (u16V 0))
      have hs2 : (w1.alloc (.cells (Array.replicate (n / 16) (u16V 0)) 81)).heap.size = w1.heap.size + 1 := by simp
      generalize w1.alloc (.cells (Array.replicate (n / 16) (u16V 0)) 81) = w2 at *
      have hm3 : Below w2.heap.size w2 (w2.alloc (.cells #[.pointer (some ⟨a, 0, none⟩), .int .i64 (d : Int), .slice (some ⟨w1.heap.size, 0, none⟩) (n / 16) (n / 16), .slice none 0 0] 73)) := below_al' _
      have hk3 := Blk.new w2 73 #[.pointer (some ⟨a, 0, none⟩), .int .i64 (d : Int), .slice (some ⟨w1.heap.size, 0, none⟩) (n / 16) (n / 16), .slice none 0 0]
      have hs3 : (w2.alloc (.cells #[.pointer (some ⟨a, 0, none⟩), .int .i64 (d : Int), .slice (some ⟨w1.heap.size, 0, none⟩) (n / 16) (n / 16), .slice none 0 0] 73)).heap.size = w2.heap.size + 1 := by simp
      have hk23 := hk2.below_ hm3
      rw [hs2] at hk3 hs3
      have HW3 := Lib.hid ((HB1.out.trans (hm2.mono HB1.out.size)).trans (hm3.mono (by rw [hs2]; have := HB1.out.size; omega)))
      have hsz1 := HB1.out.size
      clear hm2 hk2 hm3 hcd' hmk hfld
      generalize w2.alloc (.cells #[.pointer (some ⟨a, 0, none⟩), .int .i64 (d : Int), .slice (some ⟨w1.heap.size, 0, none⟩) (n / 16) (n / 16), .slice none 0 0] 73) = w3 at *
      have HX3 : Hid (HotAt w3 (New w w3) (w1.heap.size + 1) a d (List.replicate (n / 16) 0) []) := Lib.hid ⟨_, _, hk3, ⟨by omega, by omega⟩, by
        have := Vec.of_blk (F := New w w3) (xs := List.replicate (n / 16) (u16V 0)) (show Blk w3 w1.heap.size 81 (List.replicate (n / 16) (u16V 0)).toArray by rw [List.toArray_replicate]; exact hk23) ⟨by omega, by omega⟩ (k := n / 16) (size := 1) (by simp) (by unfold maxLen; omega)
        simpa using this, Vec.nil_ _ _ _ _ none⟩
      have HOK3 : Hid (HotOk (List.replicate (n / 16) 0) []) := Lib.hid ⟨SegsOk.new _, List.Pairwise.nil, (fun u hu => absurd hu (by simp)), by simp; omega⟩
      have HLP := HL.out
      clear hk3 hk23
      go_loopw [35] (fun iv wr => OpenR w a d (n / 16) (w1.heap.size + 1) ps iv wr) (fun iv _ => L - (intOf iv).toNat)
      case atStart => exact ⟨0, _, _, by omega, rfl, rfl, HX3.out, HOK3.out, by simp, rfl, HW3.out⟩
      case round =>
        obtain ⟨i, segs, used, hi, rfl, hop, hx, hko, hsl, hul, hbw⟩ := hrel
        have HOP := Lib.hid hop
        have HXR := Lib.hid hx
        have HKO := Lib.hid hko
        have HSL := Lib.hid hsl
        have HBW := Lib.hid hbw
        have HUL := Lib.hid hul
        clear hop hx hko hsl hbw hul
        by_cases hlt : i < L
        · have hiI : (i : Int) < (L : Int) := by omega
          obtain ⟨p, hp⟩ : ∃ p, ps[i]? = some p := ⟨_, List.getElem?_eq_getElem (by omega)⟩
          obtain ⟨ad, hA, hin, hpl⟩ := HPS.out i p hp
          subst hA
          obtain ⟨q0, q1, q2, q3⟩ := hpl.below HBW.out
          have HP := Lib.hid hp
          clear hp hpl
          have ha4 : Below wr.heap.size wr (wr.alloc (.cells #[.int .i64 p.dev, .int .i64 p.at_, .int .i64 p.len, .bool false] 36)) := below_al' _
          have hk4 := Blk.new wr 36 #[.int .i64 p.dev, .int .i64 p.at_, .int .i64 p.len, .bool false]
          have HX4 := Lib.hid (HXR.out.below ha4)
          have HK4 := Lib.hid hk4
          have HA4 := Lib.hid ha4
          clear ha4 hk4
          go_wp2_with fail
          have hsr : w1.heap.size + 1 < wr.heap.size := by obtain ⟨_, _, y⟩ := HXR.out; exact y.blk.lt
          have hbx := HK4.out.lt
          have HBX := Lib.hid hbx
          clear q0 q1 q2 q3 hsr hbx
          generalize wr.alloc (.cells #[.int .i64 p.dev, .int .i64 p.at_, .int .i64 p.len, .bool false] 36) = w4 at *
          obtain ⟨S4, U4, hx4⟩ := HX4.out
          have HXB := Lib.hid hx4
          have HPA := Lib.hid (place_any hx4 p.dev p.at_ p.len (.bool false) hin.1 hin.2)
          rw [HSL.out] at HPA
          clear hx4
          refine HPA.out.mono ?_
          rintro e w5 ⟨rfl, hb5⟩
          have HX5 := Lib.hid (HXB.out.below hb5)
          have hk5 := HK4.out.below_ hb5
          have k0 := (hk5.cell 0).trans (show _ = some (.int .i64 p.dev) from rfl)
          have k1 := (hk5.cell 1).trans (show _ = some (.int .i64 p.at_) from rfl)
          have k2 := (hk5.cell 2).trans (show _ = some (.int .i64 p.len) from rfl)
          have k3 := (hk5.cell 3).trans (show _ = some (.bool false) from rfl)
          have HB45 := Lib.hid (HA4.out.trans (hb5.mono HA4.out.size))
          have HW5 := Lib.hid (HBW.out.trans (HB45.out.mono HBW.out.size))
          clear hb5 hk5 HXB HPA HK4 HX4
          cases hpm : placeM d (n / 16) p.dev p.at_ p.len with
          | false =>
            have HNO : Hid (openM d (n / 16) ps = none) := Lib.hid (openM_none (k := i + 1) (by rw [openM_take HP.out, HOP.out]; unfold openStep; simp [hpm]))
            clear hpm
            go_wp2_with fail
            go_ret2
            exact ⟨HW5.out, .inr ⟨d, n, rfl, HN.out, .inl ⟨HNO.out, rfl⟩⟩⟩
          | true =>
            have hpd : p.dev = (d : Int) ∧ 1 ≤ p.len ∧ p.len ≤ 16 ∧ 0 ≤ p.at_ ∧ p.at_ / 16 < ((n / 16 : Nat) : Int) ∧ p.at_ % 16 + p.len ≤ 16 := of_decide_eq_true hpm
            obtain ⟨e0, e1, e2, e3, e4, e5⟩ := hpd
            have HPM := Lib.hid hpm
            have hok1 : okP segs.length p.pc := by
              unfold okP Plc.pc
              rw [HSL.out]
              simp only
              omega
            have hpa : p.at_ = ((p.pc.1 : Nat) : Int) := by unfold Plc.pc; simp only; omega
            have hpl2 : p.len = ((p.pc.2 : Nat) : Int) := by unfold Plc.pc; simp only; omega
            have h16 : p.pc.1 / 16 < segs.length := hok1.2.2.1
            obtain ⟨s, hs⟩ : ∃ s, segs[p.pc.1 / 16]? = some s := ⟨_, List.getElem?_eq_getElem h16⟩
            have HTK := Lib.hid (take_any HX5.out p.pc hok1 (by have := HKO.out.few; omega) s hs (HKO.out.sok _ s hs).1 (by rw [HUL.out]; omega))
            have hti := take_iff HKO.out.sok hok1 hs
            have HTI := Lib.hid hti
            have HOK1 := Lib.hid hok1
            have HS := Lib.hid hs
            rw [← hpa, ← hpl2, ← e0] at HTK
            clear hpm hti hok1 hs e0 e1 e2 e3 e4 e5 hpa hpl2 h16
            go_wp2_with fail
            refine HTK.out.mono ?_
            rintro e w6 (⟨hnz, rfl, hb6⟩ | ⟨hz, rfl, hx6, hm6⟩)
            · have HNO : Hid (openM d (n / 16) ps = none) := Lib.hid (openM_none (k := i + 1) (by
                rw [openM_take HP.out, HOP.out]
                unfold openStep
                simp only
                rw [if_neg fun h => hnz (HTI.out.2 h.2)]))
              have HW6 := Lib.hid (HW5.out.trans (hb6.mono HW5.out.size))
              clear hnz hb6
              go_wp2_with fail
              go_ret2
              exact ⟨HW6.out, .inr ⟨d, n, rfl, HN.out, .inl ⟨HNO.out, rfl⟩⟩⟩
            · have hfr := HTI.out.1 hz
              have HYES : Hid (openM d (n / 16) (ps.take (i + 1)) = some (used ++ [p.pc])) := Lib.hid (by
                rw [openM_take HP.out, HOP.out]
                unfold openStep
                simp only
                rw [if_pos ⟨HPM.out, hfr⟩])
              have hsz56 := hm6.size
              have hszw := HW5.out.size
              have hszr := HBW.out.size
              have hsz45 := HB45.out.size
              have HW6 : Hid (Below w.heap.size w w6) := Lib.hid (HW5.out.trans ((hm6.mono hszw fun g _ h => h).below fun g hg hf => by have := hf.1; omega))
              have HX6 : Hid (HotAt w6 (New w w6) (w1.heap.size + 1) a d (segs.set (p.pc.1 / 16) (s ||| maskM p.pc)) (used ++ [p.pc])) := Lib.hid (hx6.mono fun g hg hf => by
                rcases hf with hf | hf
                · exact ⟨hf.1, hg⟩
                · exact ⟨by have := hf.1; omega, hg⟩)
              have HKO6 : Hid (HotOk (segs.set (p.pc.1 / 16) (s ||| maskM p.pc)) (used ++ [p.pc])) := Lib.hid
                ⟨take_ok HKO.out.sok HOK1.out HS.out, HKO.out.apart.snoc hfr, fun u hu => by
                  rw [List.length_set]
                  rcases List.mem_append.1 hu with hu | hu
                  · exact HKO.out.ok u hu
                  · rw [List.mem_singleton] at hu; subst hu; exact HOK1.out, by rw [List.length_set]; exact HKO.out.few⟩
              clear hz hfr hx6 hm6 k0 k1 k2 k3
              go_wp2_with fail
              go_roundw
              case rel => exact ⟨i + 1, _, _, by omega, by simp, HYES.out, HX6.out, HKO6.out, by rw [List.length_set]; exact HSL.out, by rw [List.length_append, HUL.out]; rfl, HW6.out⟩
              case measure => simp [intOf]; omega
        · obtain rfl : i = L := by omega
          have hiI : ¬ (i : Int) < (i : Int) := by omega
          go_wp2_with fail
          go_ret2
          have := HOP.out
          rw [List.take_of_length_le (by omega)] at this
          exact ⟨HBW.out, .inr ⟨d, n, rfl, HN.out, .inr ⟨used, _, segs, this, rfl, HXR.out, HKO.out, HSL.out⟩⟩⟩
    · have hge : (pm.disks.length : Int) ≤ dev := by omega
      go_enter Tryd.func12, Tryd.ntmps12
      go_wp2_with fail
      refine HSH.out.mono ?_
      rintro e w1 ⟨D, T, rfl, hv1, hv1', hb1⟩
      obtain ⟨AD, cD, rfl⟩ := hv1.shape
      obtain ⟨AT, cT, rfl⟩ := hv1'.shape
      have HB1 := Lib.hid hb1
      clear hv1 hv1' hb1
      go_wp2_with fail
      go_ret2
      exact ⟨HB1.out, .inl ⟨by omega, rfl⟩⟩
end Go.Proofs.YtgcckfaljfkkhaaDoor.Hot
/- The reference's hot disk in memory; its 'Cost', 'Place', 'Meet', 'At'. -/
namespace Go.Proofs.YtgcckfaljfkkhaaDoor.Hot
open Go Go.RowKit Mem Pl Disk Crc _root_.Go.Proofs.YtgcckfaljfkkhaaDoor.Frame
/-- Bytes behind a slice; they lie in blocks of G. -/
def ByAt (w : World) (G : Nat → Prop) (b : List UInt8) (v : Value) : Prop := Vec w G 5 1 v b.length (b.map B8)
theorem ByAt.bat {w : World} {G : Nat → Prop} {b : List UInt8} {v : Value} (h : ByAt w G b v) : ∃ A c, v = .slice A b.length c ∧ BAt w A b := by
  have h' : Vec w G 5 1 v b.length (b.map B8) := h
  obtain ⟨A, c, rfl⟩ := h'.shape
  refine ⟨A, c, rfl, fun h0 => ?_⟩
  obtain ⟨g, _, _, e, _⟩ := h'.form h0
  injection e with e
  subst e
  refine ⟨_, rfl, fun k hk => ?_⟩
  have := h'.at_ (k := k) (u := B8 (b.getD k 0)) (by simp [hk])
  have e : (⟨g, 0, none⟩ : Addr).add k = ⟨g, k, none⟩ := by unfold Addr.add; split <;> simp_all
  rw [e]
  simpa [B8] using this
/-- The reference in memory; the rows of places and of bytes each of its own length. -/
structure RHotC (w : World) (G : Nat → Prop) (r dev N : Nat) (used : List Pc) (bytes : List (List UInt8)) (U V : Value) (vs : List Value) : Prop where
  blk : Blk w r 62 #[.int .i64 (dev : Int), .int .i64 (N : Int), U, V]
  own : G r
  uv : Vec w G 36 4 U used.length (used.flatMap (pcCells dev))
  rows : Vec w G 41 1 V bytes.length vs
  bv : ∀ (k : Nat) (b : List UInt8), bytes[k]? = some b → ∃ v, vs[k]? = some v ∧ ByAt w G b v
structure RHotB (w : World) (G : Nat → Prop) (r dev N : Nat) (used : List Pc) (bytes : List (List UInt8)) (U V : Value) (vs : List Value) : Prop extends RHotC w G r dev N used bytes U V vs where
  eq : used.length = bytes.length
def RHotAt (w : World) (G : Nat → Prop) (r dev N : Nat) (used : List Pc) (bytes : List (List UInt8)) : Prop := ∃ U V vs, RHotB w G r dev N used bytes U V vs
section
variable {w w' : World} {G G' F : Nat → Prop} {r dev N : Nat} {used : List Pc} {bytes : List (List UInt8)} {U V : Value} {vs : List Value}
theorem RHotC.mods {B : Nat} (x : RHotC w G r dev N used bytes U V vs) (hm : Mods B F w w') (hn : ∀ g, g < w.heap.size → G g → g < B ∧ ¬ F g) : RHotC w' G r dev N used bytes U V vs :=
  ⟨x.blk.mods hm (hn r x.blk.lt x.own).1 (hn r x.blk.lt x.own).2, x.own, x.uv.mods hm hn, x.rows.mods hm hn, fun k b hb => (x.bv k b hb).imp fun _v h => ⟨h.1, Vec.mods h.2 hm hn⟩⟩
theorem RHotC.mono (x : RHotC w G r dev N used bytes U V vs) (hF : ∀ g, g < w.heap.size → G g → G' g) : RHotC w G' r dev N used bytes U V vs :=
  ⟨x.blk, hF r x.blk.lt x.own, x.uv.mono hF, x.rows.mono hF, fun k b hb => (x.bv k b hb).imp fun _v h => ⟨h.1, Vec.mono h.2 hF⟩⟩
theorem RHotC.below (x : RHotC w G r dev N used bytes U V vs) (hb : Below w.heap.size w w') : RHotC w' G r dev N used bytes U V vs :=
  x.mods (Mods.of_below (F := fun _ => False) hb) fun _g hg _ => ⟨hg, fun y => y⟩
theorem RHotB.mods {B : Nat} (x : RHotB w G r dev N used bytes U V vs) (hm : Mods B F w w') (hn : ∀ g, g < w.heap.size → G g → g < B ∧ ¬ F g) : RHotB w' G r dev N used bytes U V vs := ⟨x.toRHotC.mods hm hn, x.eq⟩
theorem RHotB.mono (x : RHotB w G r dev N used bytes U V vs) (hF : ∀ g, g < w.heap.size → G g → G' g) : RHotB w G' r dev N used bytes U V vs := ⟨x.toRHotC.mono hF, x.eq⟩
theorem RHotB.below (x : RHotB w G r dev N used bytes U V vs) (hb : Below w.heap.size w w') : RHotB w' G r dev N used bytes U V vs :=
  x.mods (Mods.of_below (F := fun _ => False) hb) fun _g hg _ => ⟨hg, fun y => y⟩
theorem RHotAt.mods {B : Nat} (x : RHotAt w G r dev N used bytes) (hm : Mods B F w w') (hn : ∀ g, g < w.heap.size → G g → g < B ∧ ¬ F g) : RHotAt w' G r dev N used bytes := by
  obtain ⟨U, V, vs, x⟩ := x
  exact ⟨U, V, vs, x.mods hm hn⟩
theorem RHotAt.mono (x : RHotAt w G r dev N used bytes) (hF : ∀ g, g < w.heap.size → G g → G' g) : RHotAt w G' r dev N used bytes := by
  obtain ⟨U, V, vs, x⟩ := x
  exact ⟨U, V, vs, x.mono hF⟩
theorem RHotAt.below (x : RHotAt w G r dev N used bytes) (hb : Below w.heap.size w w') : RHotAt w' G r dev N used bytes := by
  obtain ⟨U, V, vs, x⟩ := x
  exact ⟨U, V, vs, x.below hb⟩
theorem RHotC.c0 (x : RHotC w G r dev N used bytes U V vs) : w.cell? ⟨r, 0, none⟩ = some (.int .i64 (dev : Int)) := (x.blk.cell 0).trans rfl
theorem RHotC.c1 (x : RHotC w G r dev N used bytes U V vs) : w.cell? ⟨r, 1, none⟩ = some (.int .i64 (N : Int)) := (x.blk.cell 1).trans rfl
theorem RHotC.c2 (x : RHotC w G r dev N used bytes U V vs) : w.cell? ⟨r, 2, none⟩ = some U := (x.blk.cell 2).trans rfl
theorem RHotC.c3 (x : RHotC w G r dev N used bytes U V vs) : w.cell? ⟨r, 3, none⟩ = some V := (x.blk.cell 3).trans rfl
/-- The cells of a place in use. -/
theorem used_cells {U : Value} (hv : Vec w G 36 4 U used.length (used.flatMap (pcCells dev))) {i : Nat} {u : Pc} (hu : used[i]? = some u) :
    ∃ g c, U = .slice (some ⟨g, 0, none⟩) used.length c ∧ w.cell? ⟨g, i * 4, none⟩ = some (.int .i64 (dev : Int)) ∧ w.cell? ⟨g, i * 4 + 1, none⟩ = some (.int .i64 (u.1 : Int)) ∧ w.cell? ⟨g, i * 4 + 2, none⟩ = some (.int .i64 (u.2 : Int)) ∧ w.cell? ⟨g, i * 4 + 3, none⟩ = some (.bool false) := by
  obtain ⟨A, c, rfl⟩ := hv.shape
  obtain ⟨g, hA, e0⟩ := hv.cell (i * 4) _ (by rw [show i * 4 = i * 4 + 0 from rfl, used_get hu (by decide)]; rfl)
  subst hA
  exact ⟨g, c, rfl, e0, hv.at_ (by rw [used_get (j := 1) hu (by decide)]; rfl), hv.at_ (by rw [used_get (j := 2) hu (by decide)]; rfl), hv.at_ (by rw [used_get (j := 3) hu (by decide)]; rfl)⟩
end
/-- The cost, counted down. -/
def CostR (n : Nat) (zv cv : Value) (w0 wr : World) : Prop := ∃ i : Nat, zv = .int .i64 ((n : Int) - 64 * (i : Int)) ∧ cv = .int .i64 (1 + (i : Int)) ∧ (0 < i → 64 * i < n + 64) ∧ wr = w0
theorem rcost_any (w : World) (n : Nat) (hn : n ≤ 4611686018427387904) : Calls Tryd.prog 23 #[.int .i64 (n : Int)] w fun e w' => e = .returned (.int .i64 (costM n : Int)) ∧ w = w' := by
  go_enter Tryd.func23, Tryd.ntmps23
  go_wp2_with fail
  go_loopw [0, 3] (fun zv cv wr => CostR n zv cv w wr) (fun zv _ _ => ((intOf zv) + 64).toNat)
  case atStart => exact ⟨0, by simp, by simp, by omega, rfl⟩
  case round =>
    obtain ⟨i, rfl, rfl, hi, rfl⟩ := hrel
    by_cases hlt : 64 * i < n
    · have h1 : (0 : Int) < (n : Int) - 64 * (i : Int) := by omega
      have h2 : IntKind.i64.wrap (1 + (i : Int) + 1) = 1 + (i : Int) + 1 := IntWalk.i64_in _ (by omega)
      have h3 : IntKind.i64.wrap ((n : Int) - 64 * (i : Int) - 64) = (n : Int) - 64 * (i : Int) - 64 := IntWalk.i64_in _ (by omega)
      go_wp2_with fail
      go_roundw
      case rel => exact ⟨i + 1, by congr 1 <;> omega, by congr 1 <;> omega, by omega, rfl⟩
      case measure => simp [intOf]; omega
    · have h1 : ¬ (0 : Int) < (n : Int) - 64 * (i : Int) := by omega
      have hc : (1 + (i : Int)) = (costM n : Int) := by
        unfold costM
        rcases Nat.eq_zero_or_pos i with h | h
        · subst h; omega
        · have := hi h; omega
      go_wp2_with fail
      go_ret
      exact ⟨rfl, rfl⟩
def meetM (p q : Pc) : Bool := decide (p.1 < q.1 + q.2 ∧ q.1 < p.1 + p.2)
set_option maxHeartbeats 1000000 in
theorem meet_any (w : World) (p q : Pc) (d1 d2 b1 b2 : Value) (hp1 : p.1 < 1000000000) (hp2 : p.2 ≤ 16) (hq1 : q.1 < 1000000000) (hq2 : q.2 ≤ 16) :
    Calls Tryd.prog 32 #[.agg #[d1, .int .i64 (p.1 : Int), .int .i64 (p.2 : Int), b1], .agg #[d2, .int .i64 (q.1 : Int), .int .i64 (q.2 : Int), b2]] w fun e w' => e = .returned (.bool (meetM p q)) ∧ Below w.heap.size w w' := by
  have e1 : IntKind.i64.wrap ((q.1 : Int) + (q.2 : Int)) = (q.1 : Int) + (q.2 : Int) := IntWalk.i64_in _ (by omega)
  have e2 : IntKind.i64.wrap ((p.1 : Int) + (p.2 : Int)) = (p.1 : Int) + (p.2 : Int) := IntWalk.i64_in _ (by omega)
  have HB : Hid (Below w.heap.size w ((w.alloc (.cells #[d1, .int .i64 (p.1 : Int), .int .i64 (p.2 : Int), b1] 36)).alloc (.cells #[d2, .int .i64 (q.1 : Int), .int .i64 (q.2 : Int), b2] 36))) := Lib.hid ((below_al' _).alloc (by simp) _)
  by_cases h1 : p.1 < q.1 + q.2
  · have h1I : decide ((p.1 : Int) < (q.1 : Int) + (q.2 : Int)) = true := decide_eq_true (by omega)
    by_cases h2 : q.1 < p.1 + p.2
    · have h2I : decide ((q.1 : Int) < (p.1 : Int) + (p.2 : Int)) = true := decide_eq_true (by omega)
      have hm : meetM p q = true := decide_eq_true ⟨h1, h2⟩
      rw [hm]
      clear hm
      go_enter Tryd.func32, Tryd.ntmps32
      go_wp2_with fail
      go_ret
      exact ⟨rfl, HB.out⟩
    · have h2I : decide ((q.1 : Int) < (p.1 : Int) + (p.2 : Int)) = false := decide_eq_false (by omega)
      have hm : meetM p q = false := decide_eq_false fun h => h2 h.2
      rw [hm]
      clear hm
      go_enter Tryd.func32, Tryd.ntmps32
      go_wp2_with fail
      go_ret
      exact ⟨rfl, HB.out⟩
  · have h1I : decide ((p.1 : Int) < (q.1 : Int) + (q.2 : Int)) = false := decide_eq_false (by omega)
    have hm : meetM p q = false := decide_eq_false fun h => h1 h.1
    rw [hm]
    clear hm
    go_enter Tryd.func32, Tryd.ntmps32
    go_wp2_with fail
    go_ret
    exact ⟨rfl, HB.out⟩
end Go.Proofs.YtgcckfaljfkkhaaDoor.Hot
