/- The law 'HotlogOpens'. -/
import Derived.Test.YtgcckfaljfkkhaaDoorHotOps
import Derived.Test.YtgcckfaljfkkhaaDoorFold0
import Derived.ProofKit
import Derived.OpenShut
import Derived.WideKeyArgs
import Derived.Deep.DeepHandedRow
import Derived.Deep.Slices
import Derived.Test.YtgcckfaljfkkhaaDoorHotApp
import Derived.Test.YtgcckfaljfkkhaaDoorCards
import Derived.Test.YtgcckfaljfkkhaaDoorTie
import Derived.Lib.LaidTab
import Derived.Test.YtgcckfaljfkkhaaDoorFold17
import Derived.Deep.CutRange
namespace Go.Proofs.YtgcckfaljfkkhaaDoor.Hot
open Go Go.RowKit Mem Pl Disk Crc _root_.Go.Proofs.YtgcckfaljfkkhaaDoor.Frame
theorem plc_len (ps : List Plc) : (ps.flatMap Plc.cells).length = ps.length * 4 := by
  induction ps with
  | nil => rfl
  | cons p ps ih => simp only [List.flatMap_cons, List.length_append, ih, List.length_cons]; simp [Plc.cells]; omega
theorem plc_get {ps : List Plc} {k : Nat} {p : Plc} (hp : ps[k]? = some p) {i : Nat} (hi : i < 4) : (ps.flatMap Plc.cells)[k * 4 + i]? = p.cells[i]? := by
  rw [List.flatMap_def]
  refine flat_get _ (fun r hr => ?_) k i p.cells ?_ hi
  · obtain ⟨q, _, rfl⟩ := List.mem_map.1 hr
    rfl
  · rw [List.getElem?_map, hp]
    rfl
theorem plc_one (ps : List Plc) : ∀ u ∈ ps.flatMap Plc.cells, u.oneCell' = true := fun u hu => by
  obtain ⟨p, _, hp⟩ := List.mem_flatMap.1 hu
  simp [Plc.cells] at hp
  rcases hp with rfl | rfl | rfl | rfl <;> rfl
theorem addr_mk (g k : Nat) : (⟨g, 0, none⟩ : Addr).add k = ⟨g, k, none⟩ := by unfold Addr.add; split <;> simp_all
theorem vec_pls {w : World} {K : Nat → Prop} {A : Option Addr} {L c : Nat} {ps : List Plc} (hin : ∀ p ∈ ps, inI p.at_) (hv : Vec w K 36 4 (.slice A L c) L (ps.flatMap Plc.cells)) : PlsAt w A ps := fun j p hp => by
  obtain ⟨g, hA, h0⟩ := hv.cell (j * 4) _ (by rw [show j * 4 = j * 4 + 0 from rfl, plc_get hp (by omega)]; rfl)
  subst hA
  refine ⟨_, rfl, hin p (List.mem_of_getElem? hp), ?_⟩
  rw [addr_mk]
  exact ⟨h0, hv.at_ (by rw [plc_get hp (by omega)]; rfl), hv.at_ (by rw [plc_get hp (by omega)]; rfl), hv.at_ (by rw [plc_get hp (by omega)]; rfl)⟩
theorem add_more (ad : Addr) (a b : Nat) : ad.add (a + (b + 1)) = ⟨(ad.add a).block, (ad.add a).off + (b + 1), none⟩ := by
  unfold Addr.add
  rw [if_neg (by omega)]
  split
  · simp_all
  · simp; omega
theorem pls_cell {w : World} {ad : Addr} {ps : List Plc} (h : PlsAt w (some ad) ps) (j : Nat) (u : Value) (hu : (ps.flatMap Plc.cells)[j]? = some u) : w.cell? (ad.add j) = some u := by
  have hj : j < ps.length * 4 := by rw [← plc_len]; exact (List.getElem?_eq_some_iff.1 hu).1
  obtain ⟨p, hp⟩ : ∃ p, ps[j / 4]? = some p := ⟨_, List.getElem?_eq_getElem (by omega)⟩
  obtain ⟨ad', hA, _, h0, h1, h2, h3⟩ := h (j / 4) p hp
  injection hA with hA
  subst hA
  have hjm : j = j / 4 * 4 + j % 4 := by omega
  rw [hjm, plc_get hp (Nat.mod_lt _ (by omega))] at hu
  have hm : j % 4 = 0 ∨ j % 4 = 1 ∨ j % 4 = 2 ∨ j % 4 = 3 := by omega
  rcases hm with hm | hm | hm | hm
  · rw [hm] at hu hjm
    rw [hjm]
    exact h0.trans hu
  · rw [hm] at hu hjm
    rw [hjm, add_more]
    exact h1.trans hu
  · rw [hm] at hu hjm
    rw [hjm, add_more]
    exact h2.trans hu
  · rw [hm] at hu hjm
    rw [hjm, add_more]
    exact h3.trans hu
/-- 'append' of places onto a slice with no room: a copy of its own. -/
theorem wpList_append_plcs {w : World} {ops : Array Oper} {rest : List Oper} {o : Oper} {a : Act} {Q : Exit → Act → World → Prop} (hgd : o.guard = none) (s x : Operand)
    (ho : o.op = .call { callee := .builtin .append, args := #[s, x], argTypes := #[22, 22] }) (A0 : Option Addr) (hs : a.eval s = .slice A0 0 0) (B : Option Addr) (m d : Nat) (ps : List Plc) (hx : a.eval x = .slice B m d) (hb : PlsAt w B ps) (hm : ps.length = m) (hml : m ≤ 100000000)
    (h : ∀ v' w', Vec w' (Grow (fun _ => False) w w') 36 4 v' m (ps.flatMap Plc.cells) → Below w.heap.size w w' → wpList Tryd.prog ops Q rest (a.put o.dst v') w') : wpList Tryd.prog ops Q (o :: rest) a w := by
  have hv : Vec w (fun _ => False) 36 4 (.slice A0 0 0) 0 [] := Vec.nil_ _ _ _ _ _
  have fin : ∀ v' w' (row : Option Nat), Vec w' (Grow (fun _ => False) w w') 36 4 v' (0 + m) ([] ++ ps.flatMap Plc.cells) → w.grownBy w' row → (row = none ∨ ∃ g cs, row = some g ∧ False ∧ w.heap[g]? = some (Obj.cells cs 36 (0, 0))) → wpList Tryd.prog ops Q rest (a.put o.dst v') w' := fun v' w' row h1 h2 h3 => by
    refine h v' w' (by simpa using h1) ((Below.refl _ _).grown h2 (Nat.le_refl _) fun k hk => ?_)
    rcases h3 with rfl | ⟨_, _, _, h, _⟩
    · cases hk
    · cases h
  cases B with
  | some ad => exact wpList_append_vec hgd s x _ ho 32 _ placeTy hs hv ad m d (ps.flatMap Plc.cells) hx (by rw [plc_len, hm]) (pls_cell hb) (plc_one ps) (by unfold maxLen; omega) (by omega) fin
  | none =>
    have h0 : ps = [] := by
      cases ps with
      | nil => rfl
      | cons p ps => obtain ⟨_, hA, _⟩ := hb 0 p rfl; cases hA
    subst h0
    obtain rfl : m = 0 := hm.symm
    refine wpList_append_run hgd s x _ _ ho _ _ (.slice A0 0 0) w hs hx ?_ (fin _ _ none (Vec.nil_ _ _ _ _ _) (World.grownBy.refl w _) (.inl rfl))
    obtain ⟨i, hi, _⟩ := placeTy.info
    cases A0 <;> simp [Builtin.append_, run_underlying placeTy.ht, sizeOf, typeInfo, hi, Builtin.lenOf, Builtin.firstCells, loadCells, loadCellsFrom, storeCells]
theorem pls_in {w : World} {A : Option Addr} {ps : List Plc} (h : PlsAt w A ps) : ∀ p ∈ ps, inI p.at_ := fun p hp => by
  obtain ⟨k, hk⟩ := List.getElem?_of_mem hp
  exact (h k p hk).choose_spec.2.1
theorem hotPM_disk_at {n d n' : Nat} (h : [1, n][d]? = some n') : ∃ Hs, Disk (hotPM n) d n' Hs [] := by
  match d with
  | 0 =>
    obtain rfl : 1 = n' := by simpa using h
    refine ⟨List.replicate 1 zeros, ?_, rfl⟩
    have := newDevs_get (zs1 := [1, (n : Int)]) (zs2 := [9]) (k := 0) (z := 1) rfl
    simpa [hotPM, devOf] using this
  | 1 =>
    obtain rfl : n = n' := by simpa using h
    exact ⟨_, hotPM_disk n⟩
  | d + 2 => simp at h
theorem openM_len {d nseg : Nat} : ∀ (ps : List Plc) (pre used : List Pc), ps.foldl (openStep d nseg) (some pre) = some used → used.length = pre.length + ps.length
  | [], pre, used, h => by injection h with h; subst h; simp
  | p :: ps, pre, used, h => by
    rw [List.foldl_cons] at h
    have e : openStep d nseg (some pre) p = some (pre ++ [p.pc]) ∨ openStep d nseg (some pre) p = none := by
      unfold openStep
      simp only
      split
      · exact .inl rfl
      · exact .inr rfl
    rcases e with e | e
    · rw [e] at h
      have := openM_len ps _ used h
      simp at this ⊢
      omega
    · rw [e, openStep_none] at h
      cases h
def fitD (d c : Nat) (r : Option Nat) : List Value := match r with
  | some a => [.int .i64 (d : Int), .int .i64 (a : Int), .int .i64 (c : Int), .bool false]
  | none => [.int .i64 0, .int .i64 0, .int .i64 0, .bool false]
theorem fitD_len (d c : Nat) (r : Option Nat) : (fitD d c r).length = 4 := by cases r <;> rfl
theorem fitD_one (d c : Nat) (r : Option Nat) : ∀ u ∈ fitD d c r, u.oneCell' = true := by cases r <;> first | exact pc0_one | exact pc1_one _ _ _
theorem fitD_eq (d c : Nat) (r : Option Nat) : fitV d c r = .tuple #[.agg (fitD d c r).toArray, .bool r.isSome] := by cases r <;> rfl
def OpnR (w : World) (L k : Nat) (iv : Value) (wr : World) : Prop := ∃ i, i + k = L ∧ iv = .int .i64 (i : Int) ∧ Below w.heap.size w wr
set_option maxRecDepth 100000 in
set_option maxHeartbeats 16000000 in
theorem lawHotOpens (z dev : Int) (hz : inI z) (A : Option Addr) (L cap : Nat) (ps : List Plc) (W : World) (ht : Tabs W.heap.size W) (hp : PlsAt W A ps) (hl : ps.length = L) (hL : L ≤ 10000000) :
    Calls Tryd.prog 3 #[.int .i64 z, .int .i64 dev, .slice A L cap] W fun e W' => e = .returned (.bool true) ∧ Below W.heap.size W W' := by
  have HT := Lib.hid ht
  have HPS := Lib.hid hp
  have HL := Lib.hid hl
  have HWH := Lib.hid (fun w : World => which_any w z 120 (by omega) (by omega) hz)
  clear ht hp hl
  have hwl := whichM_lt z (show 0 < 120 by omega)
  obtain ⟨q, hq⟩ : ∃ q, whichM z 120 = q := ⟨_, rfl⟩
  rw [hq] at HWH hwl
  have hw1 : IntKind.i64.wrap (1 + (q : Int)) = ((1 + q : Nat) : Int) := by rw [IntWalk.i64_in _ (by omega)]; push_cast; rfl
  clear hq
  go_enter Tryd.func3, Tryd.ntmps3
  go_wp2_with fail
  refine (shown_any _ HT.out).mono ?_
  rintro e w1 ⟨rfl, hb1⟩
  have HB1 := Lib.hid hb1
  clear hb1
  go_wp2_with fail
  refine (HWH.out _).mono ?_
  rintro e _ ⟨rfl, rfl⟩
  have HMD := Lib.hid (made_any w1 (1 + q) (by omega) (by omega))
  obtain ⟨n, hn⟩ : ∃ n, 1 + q = n := ⟨_, rfl⟩
  rw [hn] at HMD hw1
  have hn1 : 1 ≤ n := by omega
  have hn120 : n ≤ 120 := by omega
  go_wp2_with fail
  refine HMD.out.mono ?_
  rintro e w2 ⟨a, rfl, hpm, hb2⟩
  have HPM := Lib.hid hpm
  have HB12 := Lib.hid hb2
  have HB2 := Lib.hid (HB1.out.trans (hb2.mono HB1.out.size))
  clear hpm hb2 HMD HWH hw1 hn hwl
  have hba : Below w2.heap.size w2 (w2.alloc (.cells #[] 36)) := below_al' _
  have HBA := Lib.hid hba
  have HPA := Lib.hid (HPS.out.below (HB2.out.trans (hba.mono HB2.out.size)))
  clear hba
  go_upto_region 9 with
    (refine wpList_append_plcs rfl (.tmp 30) (.tmp 31) rfl _ rfl A L cap ps rfl HPA.out HL.out (by omega) ?_
     intro v' w3 hv3 hb3
     obtain ⟨A3, c3, rfl⟩ := hv3.shape
     have HV3 := Lib.hid hv3
     have HB3 := Lib.hid hb3
     clear hv3 hb3)
  have hb23 : Below w2.heap.size w2 w3 := HBA.out.trans (HB3.out.mono HBA.out.size)
  have HB23 := Lib.hid hb23
  have hpm3 := HPM.out.mods (Mods.of_below (F := fun _ => False) hb23) (fun g hg _ => ⟨hg, fun y => y⟩)
  have HOP := Lib.hid (hopen_any hpm3 (hotPM_ok hn1 (by omega)).1 dev A3 L c3 ps (vec_pls (pls_in HPS.out) HV3.out) HL.out (by omega))
  clear hb23 hpm3 HPA HB3 HBA
  go_wp2_with fail
  refine HOP.out.mono ?_
  rintro e w4 ⟨hb4, hr4⟩
  have HB4 := Lib.hid hb4
  have HR4 := Lib.hid hr4
  have hd2 : (hotPM n).disks = [1, n] := rfl
  rw [hd2] at HR4
  have hb24 : Below w2.heap.size w2 w4 := HB23.out.trans (hb4.mono HB23.out.size)
  have hba : Below w4.heap.size w4 (w4.alloc (.cells #[.int .i64 1, .int .i64 (n : Int)] 3)) := below_al' _
  have HBA := Lib.hid hba
  have HB24 := Lib.hid hb24
  have HRO := Lib.hid (ropen_any (w := w4.alloc (.cells #[.int .i64 1, .int .i64 (n : Int)] 3)) [1, n] (some ⟨w4.heap.size, 0, none⟩) 2 2 (iat_row w4 [1, (n : Int)] _ rfl _) rfl (by intro z hz; simp at hz; omega) dev A L cap ps (HPS.out.below (HB2.out.trans ((hb24.trans (hba.mono hb24.size)).mono HB2.out.size))) HL.out (by omega))
  clear hb4 hr4 hb24 hba HOP hd2
  have HPM0 := Lib.hid trivial
  rcases HR4.out with ⟨hno, rfl⟩ | ⟨d, n', hd, hn', ⟨hnone, rfl⟩ | ⟨used, h, segs, hu, rfl, hh, hok, hsl⟩⟩
  · go_wp2_with fail
    refine HRO.out.mono ?_
    rintro e w5 ⟨hb5, ⟨_, rfl⟩ | ⟨d, n', hd, hn', _⟩⟩
    case inr =>
      have := (List.getElem?_eq_some_iff.1 hn').1
      exact absurd ⟨by omega, by omega⟩ hno
    have hb45 : Below w4.heap.size w4 w5 := HBA.out.trans (hb5.mono HBA.out.size)
    have HB5 := Lib.hid (HB24.out.trans (hb45.mono HB24.out.size))
    have HV5 := Lib.hid (HV3.out.below (HB4.out.trans (hb45.mono HB4.out.size)))
    have HPS5 := Lib.hid (HPS.out.below (HB2.out.trans (HB5.out.mono HB2.out.size)))
    clear hb45 hb5 HRO HV3 HR4 HPM0
    go_wp2_with fail
    go_loopg [15] L (fun k iv wr => OpnR w5 L k iv wr)
    case atStart => exact ⟨0, by omega, rfl, Below.refl _ _⟩
    case round =>
      obtain ⟨i, hi, rfl, hb⟩ := hrel
      have HBX := Lib.hid hb
      have HGI := Lib.hid hi
      clear hb hi
      by_cases hlt : i < L
      · have hiI : (i : Int) < (L : Int) := by omega
        obtain ⟨p, hp⟩ : ∃ p, ps[i]? = some p := ⟨_, List.getElem?_eq_getElem (by rw [HL.out]; exact hlt)⟩
        have hvx := HV5.out.below HBX.out
        obtain ⟨g3, hA3, x0⟩ := hvx.cell (i * 4) _ (by rw [show i * 4 = i * 4 + 0 from rfl, plc_get hp (by omega)]; rfl)
        subst hA3
        have x1 := hvx.at_ (k := i * 4 + 1) (by rw [plc_get hp (by omega)]; rfl)
        have x2 := hvx.at_ (k := i * 4 + 2) (by rw [plc_get hp (by omega)]; rfl)
        have x3 := hvx.at_ (k := i * 4 + 3) (by rw [plc_get hp (by omega)]; rfl)
        obtain ⟨ad, hA, _, y0, y1, y2, y3⟩ := (HPS5.out.below HBX.out) i p hp
        subst hA
        have hneq := fun W => (show _ = Result.ok (Value.bool false) W from (neq_pc p.dev p.at_ p.len p.bad p.dev p.at_ p.len p.bad W).trans (by simp [pcEq]))
        have hgn := fun W x y xs ys => guard_pc .neq x y xs ys W
        clear hvx hp
        go_wp2_with fail
        refine Ord.region_ord [] [0, 1, 2, 3, 4, 5, 6, 7, 8] (by kernel_rfl) (by kernel_rfl) (by kernel_rfl) (by kernel_rfl) (Ord.ord_all [_, _, _, _, _, _, _, _, _] rfl (by kernel_rfl) ?_)
        go_wp2_with fail
        refine Ord.nx_end ?_
        clear x0 x1 x2 x3 y0 y1 y2 y3 hneq hgn
        go_wp2_with fail
        go_roundg (gk - 1)
        case measure => have := HGI.out; omega
        case rel => exact ⟨i + 1, by have := HGI.out; omega, by go_num, HBX.out.trans (below_drewN (Below.refl _ _) 1 |>.mono HBX.out.size)⟩
      · obtain rfl : i = L := by have := HGI.out; omega
        have hiI : ¬ ((i : Nat) : Int) < (i : Int) := by omega
        go_wp2_with fail
        go_ret
        exact ⟨rfl, HB2.out.trans ((HB5.out.trans (HBX.out.mono HB5.out.size)).mono HB2.out.size)⟩
  · have HN' := Lib.hid hn'
    have HHD := Lib.hid hd
    have HNONE := Lib.hid hnone
    clear hn' hd hnone
    go_wp2_with fail
    refine HRO.out.mono ?_
    rintro e w5 ⟨hb5, hr5⟩
    have he : e = .returned (.tuple #[.pointer none, .int .i64 31]) := by
      have hd2 : d < [1, n].length := (List.getElem?_eq_some_iff.1 HN'.out).1
      have hdd := HHD.out
      rcases hr5 with ⟨hno, _⟩ | ⟨d', n2, hd', hn2, hr5⟩
      · exact absurd ⟨by omega, by omega⟩ hno
      obtain rfl : d = d' := by omega
      rw [HN'.out] at hn2
      injection hn2 with hn2
      subst hn2
      rw [HNONE.out] at hr5
      rcases hr5 with ⟨_, rfl⟩ | ⟨used, h, hu, _⟩
      · rfl
      · cases hu
    subst he
    clear hr5
    have hb45 : Below w4.heap.size w4 w5 := HBA.out.trans (hb5.mono HBA.out.size)
    have HB5 := Lib.hid (HB24.out.trans (hb45.mono HB24.out.size))
    have HV5 := Lib.hid (HV3.out.below (HB4.out.trans (hb45.mono HB4.out.size)))
    have HPS5 := Lib.hid (HPS.out.below (HB2.out.trans (HB5.out.mono HB2.out.size)))
    clear hb45 hb5 HRO HV3 HR4 HPM0
    go_wp2_with fail
    go_loopg [15] L (fun k iv wr => OpnR w5 L k iv wr)
    case atStart => exact ⟨0, by omega, rfl, Below.refl _ _⟩
    case round =>
      obtain ⟨i, hi, rfl, hb⟩ := hrel
      have HBX := Lib.hid hb
      have HGI := Lib.hid hi
      clear hb hi
      by_cases hlt : i < L
      · have hiI : (i : Int) < (L : Int) := by omega
        obtain ⟨p, hp⟩ : ∃ p, ps[i]? = some p := ⟨_, List.getElem?_eq_getElem (by rw [HL.out]; exact hlt)⟩
        have hvx := HV5.out.below HBX.out
        obtain ⟨g3, hA3, x0⟩ := hvx.cell (i * 4) _ (by rw [show i * 4 = i * 4 + 0 from rfl, plc_get hp (by omega)]; rfl)
        subst hA3
        have x1 := hvx.at_ (k := i * 4 + 1) (by rw [plc_get hp (by omega)]; rfl)
        have x2 := hvx.at_ (k := i * 4 + 2) (by rw [plc_get hp (by omega)]; rfl)
        have x3 := hvx.at_ (k := i * 4 + 3) (by rw [plc_get hp (by omega)]; rfl)
        obtain ⟨ad, hA, _, y0, y1, y2, y3⟩ := (HPS5.out.below HBX.out) i p hp
        subst hA
        have hneq := fun W => (show _ = Result.ok (Value.bool false) W from (neq_pc p.dev p.at_ p.len p.bad p.dev p.at_ p.len p.bad W).trans (by simp [pcEq]))
        have hgn := fun W x y xs ys => guard_pc .neq x y xs ys W
        clear hvx hp
        go_wp2_with fail
        refine Ord.region_ord [] [0, 1, 2, 3, 4, 5, 6, 7, 8] (by kernel_rfl) (by kernel_rfl) (by kernel_rfl) (by kernel_rfl) (Ord.ord_all [_, _, _, _, _, _, _, _, _] rfl (by kernel_rfl) ?_)
        go_wp2_with fail
        refine Ord.nx_end ?_
        clear x0 x1 x2 x3 y0 y1 y2 y3 hneq hgn
        go_wp2_with fail
        go_roundg (gk - 1)
        case measure => have := HGI.out; omega
        case rel => exact ⟨i + 1, by have := HGI.out; omega, by go_num, HBX.out.trans (below_drewN (Below.refl _ _) 1 |>.mono HBX.out.size)⟩
      · obtain rfl : i = L := by have := HGI.out; omega
        have hiI : ¬ ((i : Nat) : Int) < (i : Int) := by omega
        go_wp2_with fail
        go_ret
        exact ⟨rfl, HB2.out.trans ((HB5.out.trans (HBX.out.mono HB5.out.size)).mono HB2.out.size)⟩
  · have HH := Lib.hid hh
    have HOK := Lib.hid hok
    have HSL := Lib.hid hsl
    have HN' := Lib.hid hn'
    have HHD := Lib.hid hd
    have HU := Lib.hid hu
    have HU0 := Lib.hid (show ps.foldl (openStep d (n' / 16)) (some []) = some used from hu)
    clear hh hok hsl hd hu
    go_wp2_with fail
    refine HRO.out.mono ?_
    have hd2 : d < [1, n].length := (List.getElem?_eq_some_iff.1 hn').1
    rintro e w5 ⟨hb5, ⟨hno, _⟩ | ⟨d', n2, hd', hn2, hr5⟩⟩
    · exact absurd ⟨by have := HHD.out; omega, by have := HHD.out; omega⟩ hno
    obtain rfl : d = d' := by have := HHD.out; omega
    rw [hn'] at hn2
    injection hn2 with hn2
    subst hn2
    rw [HU.out] at hr5
    rcases hr5 with ⟨hx, _⟩ | ⟨used', r, hu', rfl, hrr, hoks⟩
    · cases hx
    injection hu' with hu'
    subst hu'
    have HRR := Lib.hid hrr
    have HOKS := Lib.hid hoks
    have HB45 := Lib.hid (HBA.out.trans (hb5.mono HBA.out.size))
    have hs4A := HBA.out.size
    clear hrr hoks hn' hd' HU
    have hb45 : Below w4.heap.size w4 w5 := HBA.out.trans (hb5.mono HBA.out.size)
    have HB5 := Lib.hid (HB24.out.trans (hb45.mono HB24.out.size))
    have HV5 := Lib.hid (HV3.out.below (HB4.out.trans (hb45.mono HB4.out.size)))
    have HPS5 := Lib.hid (HPS.out.below (HB2.out.trans (HB5.out.mono HB2.out.size)))
    clear hb45 hb5 HRO HV3 HR4 HPM0
    go_wp2_with fail
    go_loopg [15] L (fun k iv wr => OpnR w5 L k iv wr)
    case atStart => exact ⟨0, by omega, rfl, Below.refl _ _⟩
    case round =>
      obtain ⟨i, hi, rfl, hb⟩ := hrel
      have HBX := Lib.hid hb
      have HGI := Lib.hid hi
      clear hb hi
      by_cases hlt : i < L
      · have hiI : (i : Int) < (L : Int) := by omega
        obtain ⟨p, hp⟩ : ∃ p, ps[i]? = some p := ⟨_, List.getElem?_eq_getElem (by rw [HL.out]; exact hlt)⟩
        have hvx := HV5.out.below HBX.out
        obtain ⟨g3, hA3, x0⟩ := hvx.cell (i * 4) _ (by rw [show i * 4 = i * 4 + 0 from rfl, plc_get hp (by omega)]; rfl)
        subst hA3
        have x1 := hvx.at_ (k := i * 4 + 1) (by rw [plc_get hp (by omega)]; rfl)
        have x2 := hvx.at_ (k := i * 4 + 2) (by rw [plc_get hp (by omega)]; rfl)
        have x3 := hvx.at_ (k := i * 4 + 3) (by rw [plc_get hp (by omega)]; rfl)
        obtain ⟨ad, hA, _, y0, y1, y2, y3⟩ := (HPS5.out.below HBX.out) i p hp
        subst hA
        have hneq := fun W => (show _ = Result.ok (Value.bool false) W from (neq_pc p.dev p.at_ p.len p.bad p.dev p.at_ p.len p.bad W).trans (by simp [pcEq]))
        have hgn := fun W x y xs ys => guard_pc .neq x y xs ys W
        clear hvx hp
        go_wp2_with fail
        refine Ord.region_ord [] [0, 1, 2, 3, 4, 5, 6, 7, 8] (by kernel_rfl) (by kernel_rfl) (by kernel_rfl) (by kernel_rfl) (Ord.ord_all [_, _, _, _, _, _, _, _, _] rfl (by kernel_rfl) ?_)
        go_wp2_with fail
        refine Ord.nx_end ?_
        clear x0 x1 x2 x3 y0 y1 y2 y3 hneq hgn
        go_wp2_with fail
        go_roundg (gk - 1)
        case measure => have := HGI.out; omega
        case rel => exact ⟨i + 1, by have := HGI.out; omega, by go_num, HBX.out.trans (below_drewN (Below.refl _ _) 1 |>.mono HBX.out.size)⟩
      · obtain rfl : i = L := by have := HGI.out; omega
        have hiI : ¬ ((i : Nat) : Int) < (i : Int) := by omega
        have hbx : Below w4.heap.size w4 wr := HB45.out.trans (HBX.out.mono HB45.out.size)
        have hb2x : Below w2.heap.size w2 wr := HB5.out.trans (HBX.out.mono HB5.out.size)
        have hbWx : Below W.heap.size W wr := HB2.out.trans (hb2x.mono HB2.out.size)
        have HBWX := Lib.hid hbWx
        obtain ⟨Hs, hdk⟩ := hotPM_disk_at HN'.out
        have hn' : n' ≤ 120 := by
          have := List.mem_of_getElem? HN'.out
          simp at this
          omega
        have hs1 := HB1.out.size
        have hs12 := HB12.out.size
        have hs23 := HB23.out.size
        have hs34 := HB4.out.size
        have HUL : Hid (used.length = i) := Lib.hid (by have := openM_len ps [] used HU0.out; rw [HL.out] at this; simpa using this)
        have HST : Hid (HotSt W.heap.size wr (New w1 w2) (New w3 w4) a h (hotPM n) 0 d n' Hs [] segs used) := Lib.hid ⟨begun_st hn1 (by omega) HPM.out hb2x hs1, hdk, HH.out.below hbx, HOK.out, HSL.out.symm, fun g hg => ⟨by have := hg.1; omega, by have := hg.2; have := hbx.size; omega⟩, fun g hf hg => by have := hf.2; have := hg.1; omega⟩
        obtain ⟨U, V, vs, y⟩ := HRR.out
        have HFT := Lib.hid (rfit_any (y.below HBX.out) (by omega) HOKS.out (by have := HUL.out; omega) 100 (by omega))
        clear y hbx hb2x hbWx hdk
        go_upto_region 20 with fail
        go_wp2_with fail
        refine HFT.out.mono ?_
        rintro e w6 ⟨kk, hkk, rfl, hb6⟩
        rw [fitD_eq]
        have HKK := Lib.hid hkk
        have HB6 := Lib.hid hb6
        have HN6 := Lib.hid (Blk.new w6 36 #[.int .i64 0, .int .i64 0, .int .i64 0, .bool false])
        clear hkk hb6 HFT
        go_upto_region 21 with
          (refine wpList_store_all rfl 36 (.tmp 16) (.tmp 79) rfl w6.heap.size 36 [.int .i64 0, .int .i64 0, .int .i64 0, .bool false] (fitD d (costM 100) kk) rfl rfl (HN6.out) (fitD_len _ _ _) (by rw [fitD_len]; kernel_rfl) (fitD_one _ _ _) ?_
           intro w7 hb6 hg6 hz6
           have HK7 := Lib.hid hb6
           have HG7 := Lib.hid hg6
           clear hb6 hg6 hz6)
        have hb67 : Below w6.heap.size w6 w7 := fit_row (below_al' (w := w6) _) HG7.out (Nat.le_refl _) (by simp)
        have HB7 := Lib.hid (HB6.out.trans (hb67.mono HB6.out.size))
        have HST7 := Lib.hid (HST.out.below HB7.out)
        have hle6 := HB6.out.size
        have hlt7 : w6.heap.size < w7.heap.size := HK7.out.lt
        clear hb67 HG7 HN6 HST
        go_wp2_with
          (refine wpList_make_bytes rfl _ _ _ _ rfl Frame.byteTy .i64 .i64 100 rfl rfl (by omega) ?_
           intro wm hb2 hw2 hz2
           have HBM := Lib.hid hw2
           have HAP := Lib.hid (happend_any (HST7.out.below hw2) (by have := HBWX.out.size; have := HB7.out.size; have := hw2.size; omega) (by omega) rfl (by have := HUL.out; omega) (HT.out.below (HBWX.out.trans ((HB7.out.trans (hw2.mono HB7.out.size)).mono HBWX.out.size)) (Nat.le_refl _)) (some ⟨w7.heap.size, 0, none⟩) 100 100 (Zs 100) (Blk.bat hb2) (Zs_len _) (by omega))
           clear hb2 hw2 hz2)
        refine HAP.out.mono ?_
        rintro e w8 happ
        obtain ⟨xd, xa, xl, code, rfl, hm8⟩ := happ.shape
        have HAPP := Lib.hid happ
        have HN8 := Lib.hid (Blk.new w8 36 #[.int .i64 0, .int .i64 0, .int .i64 0, .bool false])
        have hFw : ∀ g, wr.heap.size ≤ g → ¬ (New w1 w2 g ∨ New w3 w4 g) := fun g hg h => h.elim (fun h => by have := h.2; have := HBX.out.size; have := HB45.out.size; omega) (fun h => by have := h.2; have := HBX.out.size; have := HB45.out.size; omega)
        have HKW8 := Lib.hid ((HK7.out.below_ HBM.out).mods hm8 (Nat.lt_of_lt_of_le hlt7 HBM.out.size) (hFw _ hle6))
        have HBW8 := Lib.hid (show Below W.heap.size W w8 from (HBWX.out.trans ((HB7.out.trans (HBM.out.mono HB7.out.size)).mono HBWX.out.size)).trans ((hm8.mono (by have := HBWX.out.size; have := HB7.out.size; have := HBM.out.size; omega) fun _ _ h => h).below fun g hg h => h.elim (fun h => by have := h.1; omega) (fun h => by have := h.1; omega)))
        have hsm8 := hm8.size
        have hsm := HBM.out.size
        clear happ hm8 HAP
        go_upto_region 22 with
          (refine wpList_store_all rfl 36 (.tmp 18) (.tmp 85) rfl w8.heap.size 36 [.int .i64 0, .int .i64 0, .int .i64 0, .bool false] (pcs xd xa xl) rfl rfl (HN8.out) rfl (by kernel_rfl) (pcs_one _ _ _) ?_
           intro w9 hb6 hg6 hz6
           have HK9 := Lib.hid hb6
           have HG9 := Lib.hid hg6
           clear hb6 hg6 hz6)
        have hb89 : Below w8.heap.size w8 w9 := fit_row (below_al' (w := w8) _) HG9.out (Nat.le_refl _) (by simp)
        have HKW9 := Lib.hid (HKW8.out.below_ hb89)
        have HBW9 := Lib.hid (HBW8.out.trans (hb89.mono HBW8.out.size))
        have hl9 := HK9.out.lt
        have hlw9 := HKW9.out.lt
        have hgd := fun W x y xs ys => guard_pc .eql x y xs ys W
        have HES : Hid (segs.length = n' / 16) := HSL
        clear hb89 HG9 HN8 HKW8
        rcases HAPP.out with ⟨hx, _⟩ | ⟨_, hf, h2, _⟩ | ⟨k, _, hf, F', H', pm', _, _, _, ⟨h2, _⟩ | ⟨_, _, hx, _⟩⟩
        · rw [Zs_len] at hx
          omega
        · rw [Zs_len, HES.out] at hf
          obtain rfl : kk = none := HKK.out.unique hf
          simp only [noP, pcs] at h2
          simp at h2
          obtain ⟨⟨rfl, rfl, rfl⟩, rfl⟩ := h2
          have k0 := (HK9.out.cell 0).trans (show _ = some (.int .i64 0) from rfl)
          have k1 := (HK9.out.cell 1).trans (show _ = some (.int .i64 0) from rfl)
          have k2 := (HK9.out.cell 2).trans (show _ = some (.int .i64 0) from rfl)
          have k3 := (HK9.out.cell 3).trans (show _ = some (.bool false) from rfl)
          have t0 := (HKW9.out.cell 0).trans (show _ = some (.int .i64 0) from rfl)
          have t1 := (HKW9.out.cell 1).trans (show _ = some (.int .i64 0) from rfl)
          have t2 := (HKW9.out.cell 2).trans (show _ = some (.int .i64 0) from rfl)
          have t3 := (HKW9.out.cell 3).trans (show _ = some (.bool false) from rfl)
          have heq := fun W => (show _ = Result.ok (Value.bool true) W from eql_pc 0 0 0 false 0 0 0 false W)
          clear hf
          go_wp2_with fail
          go_ret
          exact ⟨rfl, HBW9.out⟩
        · rw [Zs_len, HES.out] at hf
          obtain rfl : kk = some k := HKK.out.unique hf
          rw [Zs_len] at h2
          simp only [pcs] at h2
          simp at h2
          obtain ⟨⟨rfl, rfl, rfl⟩, rfl⟩ := h2
          have HKC := Lib.hid (show Blk w9 w6.heap.size 36 (fitD d (costM 100) (some k)).toArray from HKW9.out)
          clear HKK hf HAPP HKW9 HK7
          generalize costM 100 = C at *
          have k0 := (HK9.out.cell 0).trans (show _ = some (.int .i64 (d : Int)) from rfl)
          have k1 := (HK9.out.cell 1).trans (show _ = some (.int .i64 (k : Int)) from rfl)
          have k2 := (HK9.out.cell 2).trans (show _ = some (.int .i64 (C : Int)) from rfl)
          have k3 := (HK9.out.cell 3).trans (show _ = some (.bool false) from rfl)
          have t0 := (HKC.out.cell 0).trans (show _ = some (.int .i64 (d : Int)) from rfl)
          have t1 := (HKC.out.cell 1).trans (show _ = some (.int .i64 (k : Int)) from rfl)
          have t2 := (HKC.out.cell 2).trans (show _ = some (.int .i64 (C : Int)) from rfl)
          have t3 := (HKC.out.cell 3).trans (show _ = some (.bool false) from rfl)
          have heq := fun W => (show _ = Result.ok (Value.bool true) W from (eql_pc (d : Int) (k : Int) (C : Int) false (d : Int) (k : Int) (C : Int) false W).trans (by simp [pcEq]))
          go_wp2_with fail
          go_ret
          exact ⟨rfl, HBW9.out⟩
        · exact absurd rfl hx
end Go.Proofs.YtgcckfaljfkkhaaDoor.Hot
/- What 'HotlogAgain' needs in plain terms: into which places a row of objects is laid. -/
namespace Go.Proofs.YtgcckfaljfkkhaaDoor.Hot
open Go Go.RowKit Mem Pl Disk Crc _root_.Go.Proofs.YtgcckfaljfkkhaaDoor.Frame
/-- Where one more object goes. -/
def stepA (nseg : Nat) (used : List Pc) (b : List UInt8) : Option Pc := if 512 < b.length then none else (fitB used nseg (costM b.length)).map fun k => (k, costM b.length)
/-- The places of the first i objects. -/
def usedT (nseg : Nat) (l : List (List UInt8)) : Nat → List Pc
  | 0 => []
  | i + 1 => usedT nseg l i ++ (stepA nseg (usedT nseg l i) (l.getD i [])).toList
def plcOf : Option Pc → Plc
  | none => ⟨0, 0, 0, false⟩
  | some u => ⟨1, (u.1 : Int), (u.2 : Int), false⟩
/-- The place of the object number i, or none. -/
def placeA (nseg : Nat) (l : List (List UInt8)) (i : Nat) : Plc := plcOf (stepA nseg (usedT nseg l i) (l.getD i []))
def firstT (nseg : Nat) (l : List (List UInt8)) (i : Nat) : List Plc := (List.range i).map (placeA nseg l)
theorem firstT_len (nseg : Nat) (l : List (List UInt8)) (i : Nat) : (firstT nseg l i).length = i := by simp [firstT]
theorem firstT_next (nseg : Nat) (l : List (List UInt8)) (i : Nat) : firstT nseg l (i + 1) = firstT nseg l i ++ [placeA nseg l i] := by
  unfold firstT
  rw [List.range_succ, List.map_append]
  rfl
theorem firstT_get {nseg : Nat} {l : List (List UInt8)} {m i : Nat} (h : i < m) : (firstT nseg l m)[i]? = some (placeA nseg l i) := by
  unfold firstT
  rw [List.getElem?_map, List.getElem?_range h]
  rfl
theorem usedT_len (nseg : Nat) (l : List (List UInt8)) : ∀ i, (usedT nseg l i).length ≤ i
  | 0 => Nat.le_refl _
  | i + 1 => by
    have := usedT_len nseg l i
    simp only [usedT, List.length_append]
    have : (stepA nseg (usedT nseg l i) (l.getD i [])).toList.length ≤ 1 := by cases stepA nseg (usedT nseg l i) (l.getD i []) <;> simp
    omega
theorem stepA_cost {nseg : Nat} {used : List Pc} {b : List UInt8} {u : Pc} (h : stepA nseg used b = some u) : u.2 = costM b.length ∧ b.length ≤ 512 := by
  unfold stepA at h
  split at h
  · cases h
  · cases hf : fitB used nseg (costM b.length) with
    | none => rw [hf] at h; cases h
    | some k =>
      rw [hf] at h
      injection h with h
      subst h
      exact ⟨rfl, by omega⟩
end Go.Proofs.YtgcckfaljfkkhaaDoor.Hot
/- A hot disk beside what 'HotlogAgain' keeps: its calls. -/
namespace Go.Proofs.YtgcckfaljfkkhaaDoor.Hot
open Go Go.RowKit Mem Pl Disk Crc _root_.Go.Proofs.YtgcckfaljfkkhaaDoor.Frame
/-- The code that goes with a place. -/
def codeA (b : List UInt8) : Option Pc → Int
  | some _ => 0
  | none => if 512 < b.length then 5 else 3
structure AgS (W w : World) (s a h n m : Nat) (K : Nat → Prop) (used : List Pc) (bytes : List (List UInt8)) : Prop where
  ex : ∃ (F H : Nat → Prop) (pm : PM) (Hs : List (List UInt8)) (segs : List Nat), Hot1 W.heap.size w F H a h pm m n Hs segs used bytes ∧ ¬ F s ∧ ¬ H s ∧ ∀ g, K g → ¬ F g ∧ ¬ H g
  c1 : w.cell? ⟨s, 1, none⟩ = some (.pointer (some ⟨h, 0, none⟩))
  sB : W.heap.size ≤ s
  sl : s < w.heap.size
  sK : ¬ K s
  kK : ∀ g, K g → W.heap.size ≤ g ∧ g < w.heap.size
  hb : Below W.heap.size W w
section
variable {W w w' : World} {s a h n m : Nat} {K K' : Nat → Prop} {used : List Pc} {bytes : List (List UInt8)}
/-- New blocks of the law's own. -/
theorem AgS.grow (x : AgS W w s a h n m K used bytes) (hb : Below w.heap.size w w') : AgS W w' s a h n m (Grow K w w') used bytes := by
  obtain ⟨F, H, pm, Hs, segs, y, h1, h2, h3⟩ := x.ex
  have hs := hb.size
  refine ⟨⟨F, H, pm, Hs, segs, y.below hb, h1, h2, fun g hg => ?_⟩, (hb.cell (p := ⟨s, 1, none⟩) x.sl).trans x.c1, x.sB, Nat.lt_of_lt_of_le x.sl hs, fun hk => ?_, fun g hg => ?_, x.hb.trans (hb.mono x.hb.size)⟩
  · rcases hg with hg | hg
    · exact h3 g hg
    · exact ⟨fun hf => by have := (y.hot.st.lt g hf).2; have := hg.1; omega, fun hf => by have := (y.hot.lt g hf).2; have := hg.1; omega⟩
  · rcases hk with hk | hk
    · exact x.sK hk
    · have := x.sl; have := hk.1; omega
  · rcases hg with hg | hg
    · exact ⟨(x.kK g hg).1, Nat.lt_of_lt_of_le (x.kK g hg).2 hs⟩
    · exact ⟨Nat.le_trans x.hb.size hg.1, hg.2⟩
theorem AgS.less (x : AgS W w s a h n m K used bytes) (hk : ∀ g, K' g → K g) : AgS W w s a h n m K' used bytes := by
  obtain ⟨F, H, pm, Hs, segs, y, h1, h2, h3⟩ := x.ex
  exact ⟨⟨F, H, pm, Hs, segs, y, h1, h2, fun g hg => h3 g (hk g hg)⟩, x.c1, x.sB, x.sl, fun h => x.sK (hk s h), fun g hg => x.kK g (hk g hg), x.hb⟩
/-- What is written among the law's own. -/
theorem AgS.mods (x : AgS W w s a h n m K used bytes) (hm : Mods w.heap.size K w w') : AgS W w' s a h n m K used bytes := by
  obtain ⟨F, H, pm, Hs, segs, y, h1, h2, h3⟩ := x.ex
  have hs := hm.size
  have hsc : w'.cell? ⟨s, 1, none⟩ = w.cell? ⟨s, 1, none⟩ := by
    simp only [World.cell?]
    rw [hm.keep s x.sl x.sK]
  exact ⟨⟨F, H, pm, Hs, segs, y.mods hm (fun g hf hk => (h3 g hk).1 hf) (fun g hf hk => (h3 g hk).2 hf) (fun g hk => (x.kK g hk).1), h1, h2, h3⟩, hsc.trans x.c1, x.sB, Nat.lt_of_lt_of_le x.sl hs, x.sK, fun g hg => ⟨(x.kK g hg).1, Nat.lt_of_lt_of_le (x.kK g hg).2 hs⟩,
    x.hb.trans ((hm.mono x.hb.size fun _ _ h => h).below fun g hg hk => by have := (x.kK g hk).1; omega)⟩
/-- A row of the law's own grown. -/
theorem AgS.grown (x : AgS W w s a h n m K used bytes) {row : Option Nat} (hg : w.grownBy w' row) (hr : ∀ g, row = some g → K g) : AgS W w' s a h n m (Grow K w w') used bytes := by
  have hm : Mods w.heap.size K w w' := (Mods.refl w.heap.size K w).grown hg (Nat.le_refl _) fun g e => .inl (hr g e)
  have hs := hm.size
  have z := x.mods hm
  obtain ⟨F, H, pm, Hs, segs, y, h1, h2, h3⟩ := x.ex
  refine ⟨⟨F, H, pm, Hs, segs, y.mods hm (fun g hf hk => (h3 g hk).1 hf) (fun g hf hk => (h3 g hk).2 hf) (fun g hk => (x.kK g hk).1), h1, h2, fun g hg => ?_⟩, z.c1, z.sB, z.sl, fun hk => ?_, fun g hg => ?_, z.hb⟩
  · rcases hg with hg | hg
    · exact h3 g hg
    · exact ⟨fun hf => by have := (y.hot.st.lt g hf).2; have := hg.1; omega, fun hf => by have := (y.hot.lt g hf).2; have := hg.1; omega⟩
  · rcases hk with hk | hk
    · exact x.sK hk
    · have := x.sl; have := hk.1; omega
  · rcases hg with hg | hg
    · exact z.kK g hg
    · exact ⟨Nat.le_trans x.hb.size hg.1, hg.2⟩
/-- A place of the law's own written. -/
theorem AgS.write (x : AgS W w s a h n m K used bytes) {g : Nat} (hg : w.grownBy w' (some g)) (hK : K g) : AgS W w' s a h n m K used bytes :=
  (x.grown hg fun g' e => by injection e with e; rw [← e]; exact hK).less fun _ h => .inl h
/-- What the disk and the plant turn. -/
def Other (W w : World) (s : Nat) (K : Nat → Prop) : Nat → Prop := fun g => W.heap.size ≤ g ∧ ¬ K g ∧ g ≠ s
theorem AgS.append (x : AgS W w s a h n m K used bytes) (hm : m ≤ 900000000) (hul : used.length ≤ 1000000000) (A : Option Addr) (L cap : Nat) (b : List UInt8) (hb : BAt w A b) (hl : b.length = L) (hL : L ≤ 9223372036854775807) :
    Calls Tryd.prog 15 #[.pointer (some ⟨h, 0, none⟩), .slice A L cap] w fun e w' => e = .returned (.tuple #[.agg (plcOf (stepA (n / 16) used b)).cells.toArray, .int .i64 (codeA b (stepA (n / 16) used b))]) ∧
      (∃ bytes', AgS W w' s a h n (m + 17) K (used ++ (stepA (n / 16) used b).toList) bytes') ∧ Mods w.heap.size (Other W w s K) w w' := by
  obtain ⟨F, H, pm, Hs, segs, y, h1, h2, h3⟩ := x.ex
  refine (y.append hm hul A L cap b hb hl hL).mono ?_
  have same : ∀ w', Below w.heap.size w w' → AgS W w' s a h n (m + 17) K used bytes := fun w' hb => by
    have z := (x.grow hb).less (K' := K) fun g hg => .inl hg
    obtain ⟨F, H, pm, Hs, segs, y, h1, h2, h3⟩ := z.ex
    exact ⟨⟨F, H, pm, Hs, segs, ⟨⟨St.more y.hot.st (by omega), y.hot.disk, y.hot.hot, y.hot.ok, y.hot.size, y.hot.lt, y.hot.apart⟩, y.held, y.eq, y.on, y.fuse, y.hB, y.tabs⟩, h1, h2, h3⟩, z.c1, z.sB, z.sl, z.sK, z.kK, z.hb⟩
  rintro e w' (⟨g1, rfl, hb'⟩ | ⟨g1, g2, rfl, hb'⟩ | ⟨k, g1, g2, rfl, F', H', pm', Hs', segs', hF', hH', hmo, z⟩)
  · have e : stepA (n / 16) used b = none := by unfold stepA; rw [if_pos g1]
    rw [e]
    refine ⟨by simp only [codeA, if_pos g1]; rfl, ⟨bytes, by simpa using same w' hb'⟩, Mods.of_below hb'⟩
  · have e : stepA (n / 16) used b = none := by unfold stepA; rw [if_neg (by omega), g2]; rfl
    rw [e]
    refine ⟨by simp only [codeA, if_neg (show ¬ 512 < b.length by omega)]; rfl, ⟨bytes, by simpa using same w' hb'⟩, Mods.of_below hb'⟩
  · have e : stepA (n / 16) used b = some (k, costM b.length) := by unfold stepA; rw [if_neg (by omega), g2]; rfl
    rw [e]
    have hsz := hmo.size
    have hsn : ¬ (F s ∨ H s) := fun h => h.elim h1 h2
    have hsc : w'.cell? ⟨s, 1, none⟩ = w.cell? ⟨s, 1, none⟩ := by
      simp only [World.cell?]
      rw [hmo.keep s x.sl hsn]
    refine ⟨rfl, ⟨bytes ++ [b], ⟨⟨F', H', pm', Hs', segs', z, fun hf => ?_, fun hf => ?_, fun g hg => ⟨fun hf => ?_, fun hf => ?_⟩⟩, hsc.trans x.c1, x.sB, Nat.lt_of_lt_of_le x.sl hsz, x.sK, fun g hg => ⟨(x.kK g hg).1, Nat.lt_of_lt_of_le (x.kK g hg).2 hsz⟩, x.hb.trans ((hmo.mono x.hb.size fun _ _ h => h).below fun g hg hf => ?_)⟩⟩, hmo.mono (Nat.le_refl _) fun g _ hf => ⟨?_, fun hk => ?_, fun e => ?_⟩⟩
    · have := x.sl
      rcases hF' _ hf with h | h
      · exact h1 h
      · omega
    · have := x.sl
      rcases hH' _ hf with h | h
      · exact h2 h
      · omega
    · have := (x.kK g hg).2
      rcases hF' _ hf with h | h
      · exact (h3 g hg).1 h
      · omega
    · have := (x.kK g hg).2
      rcases hH' _ hf with h | h
      · exact (h3 g hg).2 h
      · omega
    · rcases hf with hf | hf
      · have := (y.hot.st.lt g hf).1; omega
      · have := (y.hot.lt g hf).1; omega
    · rcases hf with hf | hf
      · exact (y.hot.st.lt g hf).1
      · exact (y.hot.lt g hf).1
    · exact hf.elim (h3 g hk).1 (h3 g hk).2
    · subst e
      exact hsn hf
theorem AgS.free (x : AgS W w s a h n m K used bytes) (hul : used.length ≤ 1000000000) {k : Nat} {u : Pc} (hu : used[k]? = some u) (bad : Bool) :
    Calls Tryd.prog 17 #[.pointer (some ⟨h, 0, none⟩), .agg #[.int .i64 1, .int .i64 (u.1 : Int), .int .i64 (u.2 : Int), .bool bad]] w fun e w' => e = .returned (.int .i64 0) ∧
      AgS W w' s a h n m K (used.eraseIdx k) (bytes.eraseIdx k) ∧ Mods w.heap.size (Other W w s K) w w' := by
  obtain ⟨F, H, pm, Hs, segs, y, h1, h2, h3⟩ := x.ex
  refine (y.free hul hu bad).mono ?_
  rintro e w' ⟨rfl, segs', z, hmo⟩
  have hsz := hmo.size
  have hsc : w'.cell? ⟨s, 1, none⟩ = w.cell? ⟨s, 1, none⟩ := by
    simp only [World.cell?]
    rw [hmo.keep s x.sl h2]
  exact ⟨rfl, ⟨⟨F, H, pm, Hs, segs', z, h1, h2, h3⟩, hsc.trans x.c1, x.sB, Nat.lt_of_lt_of_le x.sl hsz, x.sK, fun g hg => ⟨(x.kK g hg).1, Nat.lt_of_lt_of_le (x.kK g hg).2 hsz⟩, x.hb.trans ((hmo.mono x.hb.size fun _ _ h => h).below fun g hg hf => by have := (y.hot.lt g hf).1; omega)⟩,
    hmo.mono (Nat.le_refl _) fun g _ hf => ⟨(y.hot.lt g hf).1, fun hk => (h3 g hk).2 hf, fun e => h2 (e ▸ hf)⟩⟩
end
end Go.Proofs.YtgcckfaljfkkhaaDoor.Hot
/- What every law's row shares: a call that returns true and leaves all that was there meets the row's post; arguments opened to bytes and numbers. No program's function is walked here. -/
namespace Go.Proofs.YtgcckfaljfkkhaaDoor.Law
open Go.RowKit Go.ChangeShapes Go.WideShapes Go.ChangeAt Mem
section
variable {H : Type} {enc : TypeId × Value → H} {P : Program}

theorem trodAll_stays (hl : laidOutB P = true) {W W' : World} (hb : Below W.heap.size W W') :
    ∀ (ts : List TypeId) (vs : List Value) (ds : List (DataW H)) (ps : List MemPlace), (∀ t ∈ ts, P.readableRec t = true ∧ t < P.types.size) →
      DataW.TrodAll enc P W 0 (fun _ => true) true ts vs ds ps → (∀ p ∈ ps, p.block < W.heap.size) → ∀ sp : Nat → Bool, (∀ p ∈ ps, sp p.block = true) →
      DataW.TrodAll enc P W' 0 sp true ts vs ds ps
  | [], [], [], ps, _, h, _, _, _ => h
  | t :: ts, v :: vs, d :: ds, ps, hr, h, hlt, sp, hsp => by
    obtain ⟨p, q, hp, hq, rfl⟩ := h
    refine ⟨p, q, ?_, trodAll_stays hl hb ts vs ds q (fun t ht => hr t (List.mem_cons_of_mem _ ht)) hq (fun x hx => hlt x (List.mem_append_right _ hx)) sp (fun x hx => hsp x (List.mem_append_right _ hx)), rfl⟩
    exact WideElems.Trod_stays hl (hr t (List.mem_cons_self ..)).1 (hr t (List.mem_cons_self ..)).2 hp (fun x hx => hb.same (hlt x (List.mem_append_left _ hx))) (fun x hx => hsp x (List.mem_append_left _ hx))
  | [], [], _ :: _, _, _, h, _, _, _ => h.elim
  | [], _ :: _, _, _, _, h, _, _, _ => h.elim
  | _ :: _, [], _, _, _, h, _, _, _ => h.elim
  | _ :: _, _ :: _, [], _, _, h, _, _, _ => h.elim

/-- A LAW's END: it returned true, and all that was there is as it was. -/
theorem post_law {f : Func} {s : ChangeSpec} {apart : Bool} {W W' : World} {args : Array Value} {ds gs : List (DataW H)} {before : List MemPlace} {tb : TypeId}
    (hW : DataW.Whole enc P f.params.toList s.vars apart W args.toList ds gs before) (hv : s.vars = []) (hres : f.resultTypes = #[tb]) (htb : P.underlying tb = some .bool)
    (hfn : s.fn H (ds ++ gs) = { results := [.lit (.bool true)], args := ds }) (hl : laidOutB P = true) (hr : ∀ t ∈ f.params.toList, P.readableRec t = true ∧ t < P.types.size)
    (hb : Below W.heap.size W W') : s.post enc P f apart true false false W args (.bool true) W' := by
  have hlt : ∀ p ∈ before, p.block < W.heap.size := fun p hp => hW.lt p hp
  have hW' := hW
  obtain ⟨p, q, hA, hV, rfl, _, _⟩ := hW
  rw [hv] at hV
  obtain ⟨rfl, rfl⟩ := trodVars_none hV
  refine ⟨ds, [], p ++ [], [], p, [], hW', ?_, ?_, ?_, World.keptBut_mono (fun x hx => ⟨hx, ?_⟩) (hb.frame (· ∈ p ++ [])), fun h => by cases h⟩
  · rw [hfn, hres]
    exact trodAll_mk1 (shut_bool htb true)
  · rw [hfn]
    exact trodAll_stays hl hb _ _ _ _ hr hA (fun x hx => hlt x (List.mem_append_left _ hx)) _ (fun x hx => by simpa using hlt x (List.mem_append_left _ hx))
  · rw [hfn, hv]; rfl
  · exact .inr (.inl (by simpa using hx))

theorem wf_u8 {n : Int} (h : (Lit.int .u8 n).wf = true) : 0 ≤ n ∧ n < 256 := by
  simp [Lit.wf, IntKind.min, IntKind.max, IntKind.signed, IntKind.bits] at h
  omega
/-- A slice of bytes among the arguments. -/
theorem open_bytes {W : World} {r : Reach} {b0 : Nat} {t e : TypeId} {v : Value} {d : DataW H} {ps : List MemPlace} (ht : P.underlying t = some (.slice e)) (he : P.underlying e = some (.int .u8)) (hc : P.cellsOf e = 1)
    (hval : Value.okWide P W r b0 t v) (h : DataW.Trod enc P W 0 (fun _ => true) true t v d ps) :
    ∃ (A : Option Addr) (n cap : Nat) (bs : List UInt8), v = .slice A n cap ∧ BAt W A bs ∧ bs.length = n ∧ n ≤ cap ∧ cap ≤ maxLen ∧
      ((A = none ∧ cap = 0 ∧ d = .nil) ∨ ∃ zs : List Int, d = .slice (lits .u8 (zs.take n)) (lits .u8 (zs.drop n)) ∧ zs.length = cap) := by
  obtain ⟨A, n, cap, rfl⟩ := okWide_slice ht hval
  obtain ⟨fuel, hf⟩ := h
  rcases open_ints ht he hc hf with ⟨hcs, hx⟩ | ⟨a, n', cap', zs, hcs, _, hl, hm, hz, hx, hcell, hwz⟩
  · simp [Value.cells] at hcs
    obtain ⟨rfl, rfl, rfl⟩ := hcs
    simp only [Prod.mk.injEq] at hx
    exact ⟨none, 0, 0, [], rfl, BAt.nil_ _ _, rfl, Nat.le_refl _, by unfold maxLen; omega, .inl ⟨rfl, rfl, hx.1⟩⟩
  · simp [Value.cells] at hcs
    obtain ⟨rfl, rfl, rfl⟩ := hcs
    simp only [Prod.mk.injEq] at hx
    simp only [if_true] at hz
    refine ⟨some a, n, cap, (zs.take n).map fun z => UInt8.ofNat z.toNat, rfl, fun _ => ⟨a, rfl, fun k hk => ?_⟩, by simp; omega, hl, hm, .inr ⟨zs, hx.1, hz⟩⟩
    simp at hk
    rw [hcell k (by omega)]
    have hkz : k < zs.length := by omega
    have hw := wf_u8 (hwz zs[k] (List.getElem_mem hkz))
    have hv := V8_ofInt zs[k] hw.1 hw.2
    simp [List.getD, hkz, List.getElem_take, hk]
    exact hv
theorem wf_u32 {n : Int} (h : (Lit.int .u32 n).wf = true) : 0 ≤ n ∧ n < 4294967296 := by
  simp [Lit.wf, IntKind.min, IntKind.max, IntKind.signed, IntKind.bits] at h
  omega
theorem wf_u64 {n : Int} (h : (Lit.int .u64 n).wf = true) : 0 ≤ n ∧ n < 18446744073709551616 := by
  simp [Lit.wf, IntKind.min, IntKind.max, IntKind.signed, IntKind.bits] at h
  omega
theorem wf_i64 {n : Int} (h : (Lit.int .i64 n).wf = true) : -9223372036854775808 ≤ n ∧ n < 9223372036854775808 := by
  simp [Lit.wf, IntKind.min, IntKind.max, IntKind.signed, IntKind.bits] at h
  omega
/-! ### The form's own reach -/
theorem reach_cons {t : TypeId} {ts : List TypeId} {d : DataW H} {ds : List (DataW H)} (h : (DataW.weightsEach P (t :: ts) (d :: ds)).all (· ≤ reachBytes) = true) :
    (d.weights P t).all (· ≤ reachBytes) = true ∧ (DataW.weightsEach P ts ds).all (· ≤ reachBytes) = true := by
  simp only [DataW.weightsEach, List.all_append, Bool.and_eq_true] at h
  exact h
theorem reach_bytes {t e : TypeId} {A : Option Addr} {n cap : Nat} {d : DataW H} (ht : P.underlying t = some (.slice e)) (hb : P.bytesOf e = 1) (hn : n ≤ cap)
    (hd : (A = none ∧ cap = 0 ∧ d = .nil) ∨ ∃ zs : List Int, d = .slice (lits .u8 (zs.take n)) (lits .u8 (zs.drop n)) ∧ zs.length = cap)
    (h : (d.weights P t).all (· ≤ reachBytes) = true) : cap ≤ 140737488351232 := by
  rcases hd with ⟨_, rfl, _⟩ | ⟨zs, rfl, rfl⟩
  · omega
  · simp only [DataW.weights, ht, hb, List.all_cons, Bool.and_eq_true, decide_eq_true_eq] at h
    have h1 := h.1
    simp [lits, reachBytes] at h1
    omega
/-! ### The bound of the second form -/
theorem bulk_one {d : DataW H} : 1 ≤ Rows.uptoBulk d := by
  cases d with
  | lit l => cases l <;> simp [Rows.uptoBulk]
  | nil => simp [Rows.uptoBulk]
  | ptr d => simp [Rows.uptoBulk]
  | slice elems spare => simp [Rows.uptoBulk]
  | agg parts => simp [Rows.uptoBulk]
  | iface t d => simp [Rows.uptoBulk]
  | map entries => simp [Rows.uptoBulk]
  | held _ => simp [Rows.uptoBulk]
theorem bulk_length (l : List (DataW H)) : l.length ≤ Rows.uptoBulkAll l := by
  induction l with
  | nil => simp [Rows.uptoBulkAll]
  | cons x r ih => have := bulk_one (d := x); simp only [Rows.uptoBulkAll, List.length_cons]; omega
theorem bulk_bytes {A : Option Addr} {n cap : Nat} {d : DataW H} (hn : n ≤ cap)
    (hd : (A = none ∧ cap = 0 ∧ d = .nil) ∨ ∃ zs : List Int, d = .slice (lits .u8 (zs.take n)) (lits .u8 (zs.drop n)) ∧ zs.length = cap) : cap ≤ Rows.uptoBulk d := by
  rcases hd with ⟨_, rfl, _⟩ | ⟨zs, rfl, rfl⟩
  · omega
  · have h1 := bulk_length (lits (H := H) .u8 (zs.take n))
    have h2 := bulk_length (lits (H := H) .u8 (zs.drop n))
    rw [show (lits (H := H) .u8 (zs.take n)).length = (zs.take n).length from by simp [lits]] at h1
    rw [show (lits (H := H) .u8 (zs.drop n)).length = (zs.drop n).length from by simp [lits]] at h2
    rw [List.length_take] at h1
    rw [List.length_drop] at h2
    simp only [Rows.uptoBulk]
    omega
end
end Go.Proofs.YtgcckfaljfkkhaaDoor.Law
/- What the rows of layer 14 share: the tables' cells out of the row's list; a world for the witness. -/
namespace Go.Proofs.YtgcckfaljfkkhaaDoor.Hot
open Go.ChangeShapes Go.WideShapes Go.ChangeAt Go.RowKit Mem
theorem own : ownKnob Tryd.prog.godebug = none := by kernel_rfl
theorem laidOut : laidOutB Tryd.prog = true := by kernel_rfl
theorem gTab : Tryd.prog.globalNamed "muniment/crc.nibbles" = some 1 := by kernel_rfl
theorem gTabType : (Tryd.prog.globals[1]?).map (·.type) = some 125 := by kernel_rfl
theorem gTz : Tryd.prog.globalNamed "math/bits.deBruijn32tab" = some 0 := by kernel_rfl
theorem gTzType : (Tryd.prog.globals[0]?).map (·.type) = some 121 := by kernel_rfl
theorem cellsArr : Tryd.prog.cellsOf 125 = 16 := by kernel_rfl
theorem cellsArr8 : Tryd.prog.cellsOf 121 = 32 := by kernel_rfl
theorem cellsU32 : Tryd.prog.cellsOf 110 = 1 := by kernel_rfl
theorem cellsU8 : Tryd.prog.cellsOf 5 = 1 := by kernel_rfl
theorem cellsI64 : Tryd.prog.cellsOf 3 = 1 := by kernel_rfl
theorem bytesU8 : Tryd.prog.bytesOf 5 = 1 := by kernel_rfl
def nums : List Int := [0, 498536548, 997073096, 651767980, 1994146192, 1802195444, 1303535960, 1342533948, 3988292384, 4027552580, 3604390888, 3412177804, 2607071920, 2262029012, 2685067896, 3183342108]
theorem nums_nib : ∀ i : Fin 16, nums.getD i.val 0 = Crc.U (Crc.nib i.val) := by decide
theorem laidMet_tail {P : Program} {W : World} {x : String × DataW Unit} {rest : List (String × DataW Unit)} (h : laidMet P (x :: rest) W) : laidMet P rest W := by
  obtain ⟨ps, ⟨g', t', cs, fuel, p, q, hg', ht', hvar, hd, hr, hq⟩, hn, hm⟩ := h
  subst hq
  exact ⟨q, hr, (List.nodup_append.1 hn).2.1, fun b off hin => hm b off (List.mem_append_right _ hin)⟩
/-- WHAT THE ROW's LIST GIVES: both tables' cells. -/
theorem table {W : World} (h : laidMetH Tryd.prog [("math/bits.deBruijn32tab", Rows.laid_math_bits_deBruijn32tab), ("muniment/crc.nibbles", Rows.laid_muniment_crc_nibbles)] W) : Tabs W.heap.size W := by
  have h : laidMet Tryd.prog [("math/bits.deBruijn32tab", Rows.laid_math_bits_deBruijn32tab), ("muniment/crc.nibbles", Rows.laid_muniment_crc_nibbles)] W := h
  have hz : Lib.TabIs Tryd.prog W "math/bits.deBruijn32tab" .u8 tzs :=
    Lib.tabIs_of_head gTz gTzType Tryd.underlying121 Tryd.underlying5 cellsU8 cellsArr8 h
  have ht : Lib.TabIs Tryd.prog W "muniment/crc.nibbles" .u32 nums :=
    Lib.tabIs_of_head (rest := []) gTab gTabType Tryd.underlying125 Tryd.underlying110 cellsU32 cellsArr (laidMet_tail h)
  have h1 : Crc.Tab W := by
    intro i hi
    rw [ht.cell gTab i hi, nums_nib ⟨i, hi⟩]
  have h2 : Tz W := fun i hi => hz.cell gTz i hi
  exact ⟨h1, h2, cell_lt (h1 0 (by decide)), cell_lt (h2 0 (by decide))⟩
/-- A variable's cells laid. -/
def layCells (xs : Array Value) : Obj → Obj
  | .cells _ t frozen => .cells xs t frozen
  | o => o
/-- A WORLD FOR THE WITNESS: the settled one, the tables holding what their initialisers lay. -/
noncomputable def laidWorld (os : Os) : World :=
  { World.holding Tryd.prog os ⟨#[], #[], []⟩ with heap := ((World.holding Tryd.prog os ⟨#[], #[], []⟩).heap.modify 1 (layCells #[.int .u32 0, .int .u32 498536548, .int .u32 997073096, .int .u32 651767980, .int .u32 1994146192, .int .u32 1802195444, .int .u32 1303535960, .int .u32 1342533948, .int .u32 3988292384, .int .u32 4027552580, .int .u32 3604390888, .int .u32 3412177804, .int .u32 2607071920, .int .u32 2262029012, .int .u32 2685067896, .int .u32 3183342108])).modify 0 (layCells #[.int .u8 0, .int .u8 1, .int .u8 28, .int .u8 2, .int .u8 29, .int .u8 14, .int .u8 24, .int .u8 3, .int .u8 30, .int .u8 22, .int .u8 20, .int .u8 15, .int .u8 25, .int .u8 17, .int .u8 4, .int .u8 8, .int .u8 31, .int .u8 27, .int .u8 13, .int .u8 23, .int .u8 21, .int .u8 19, .int .u8 16, .int .u8 7, .int .u8 26, .int .u8 12, .int .u8 18, .int .u8 6, .int .u8 11, .int .u8 5, .int .u8 10, .int .u8 9]) }
end Go.Proofs.YtgcckfaljfkkhaaDoor.Hot
/- Opening the arguments of layer 14's laws: numbers, rows of numbers, of places, of bytes, of calls. -/
namespace Go.Proofs.YtgcckfaljfkkhaaDoor.Hot
open Go.ChangeShapes Go.WideShapes Go.ChangeAt Go.RowKit Mem Law Pl
theorem cellsIS : Tryd.prog.cellsOf 34 = 1 := by kernel_rfl
theorem cellsBS : Tryd.prog.cellsOf 41 = 1 := by kernel_rfl
theorem cellsBool : Tryd.prog.cellsOf 4 = 1 := by kernel_rfl
theorem cellsPl : Tryd.prog.cellsOf 36 = 4 := by kernel_rfl
theorem cellsOp : Tryd.prog.cellsOf 53 = 8 := by kernel_rfl
variable {H : Type} {enc : TypeId × Value → H} {P : Program}
theorem bulk_mem {l : List (DataW H)} {d : DataW H} (h : d ∈ l) : Rows.uptoBulk d ≤ Rows.uptoBulkAll l := by
  induction l with
  | nil => cases h
  | cons x r ih =>
    simp only [Rows.uptoBulkAll]
    rcases List.mem_cons.1 h with rfl | h
    · omega
    · have := ih h; omega
theorem list_choose {α : Type} (n : Nat) (Q : Nat → α → Prop) (h : ∀ i, i < n → ∃ x, Q i x) : ∃ l : List α, l.length = n ∧ ∀ (i : Nat) (hi : i < l.length), Q i l[i] := by
  induction n with
  | zero => exact ⟨[], rfl, fun i hi => absurd hi (by simp)⟩
  | succ n ih =>
    obtain ⟨l, hl, hq⟩ := ih fun i hi => h i (by omega)
    obtain ⟨x, hx⟩ := h n (by omega)
    refine ⟨l ++ [x], by simp [hl], fun i hi => ?_⟩
    rcases Nat.lt_or_ge i n with hlt | hge
    · rw [List.getElem_append_left (by omega)]
      exact hq i (by omega)
    · obtain rfl : i = n := by simp [hl] at hi; omega
      simpa [List.getElem_append_right, hl] using hx
/-- A cell that is a slice of bytes. -/
theorem cell_bytes {W : World} {t e : TypeId} {fuel : Nat} {cs : List Value} {x : DataW H × List MemPlace} (ht : P.underlying t = some (.slice e)) (he : P.underlying e = some (.int .u8)) (hc : P.cellsOf e = 1)
    (h : DataW.trod enc P W 0 (fun _ => true) true fuel t cs = some x) :
    ∃ (B : Option Addr) (bs : List UInt8) (c : Nat), cs = [.slice B bs.length c] ∧ BAt W B bs ∧ bs.length ≤ Rows.uptoBulk x.1 := by
  rcases open_ints ht he hc h with ⟨rfl, rfl⟩ | ⟨a, n, cap, zs, rfl, _, hl, hm, hz, rfl, hcell, hwz⟩
  · exact ⟨none, [], 0, rfl, BAt.nil_ _ _, by simp⟩
  · simp only [if_true] at hz
    have hlen : ((zs.take n).map fun z => UInt8.ofNat z.toNat).length = n := by simp; omega
    refine ⟨some a, (zs.take n).map fun z => UInt8.ofNat z.toNat, cap, by rw [hlen], fun _ => ⟨a, rfl, fun k hk => ?_⟩, ?_⟩
    · rw [hlen] at hk
      rw [hcell k (by omega)]
      have hkz : k < zs.length := by omega
      have hw := wf_u8 (hwz zs[k] (List.getElem_mem hkz))
      have hv := V8_ofInt zs[k] hw.1 hw.2
      simp [List.getD, hkz, hk]
      exact hv
    · rw [hlen]
      have h1 := bulk_length (lits (H := H) .u8 (zs.take n))
      rw [show (lits (H := H) .u8 (zs.take n)).length = (zs.take n).length from by simp [lits], List.length_take] at h1
      simp only [Rows.uptoBulk]
      omega
theorem cell_ints {W : World} {t e : TypeId} {cs : List Value} {fuel : Nat} {x : DataW H × List MemPlace} (ht : P.underlying t = some (.slice e)) (he : P.underlying e = some (.int .i64)) (hc : P.cellsOf e = 1)
    (hf : DataW.trod enc P W 0 (fun _ => true) true fuel t cs = some x) :
    ∃ (A : Option Addr) (n cap : Nat) (zs : List Int), cs = [.slice A n cap] ∧ IAt W A zs ∧ zs.length = n ∧ cap ≤ maxLen ∧ n ≤ cap ∧ n ≤ Rows.uptoBulk x.1 ∧ ∀ z ∈ zs, inI z := by
  rcases open_ints ht he hc hf with ⟨hcs, hx⟩ | ⟨a, n', cap', zs, hcs, _, hl, hm, hz, hx, hcell, hwz⟩
  · exact ⟨none, 0, 0, [], hcs, .inl rfl, rfl, by unfold maxLen; omega, Nat.le_refl _, Nat.zero_le _, fun z hz => by simp at hz⟩
  · simp only [if_true] at hz
    refine ⟨some a, n', cap', zs.take n', hcs, .inr ⟨a, rfl, fun k z hk => ?_⟩, by simp; omega, hm, hl, ?_, fun z hz => wf_i64 (hwz z (List.mem_of_mem_take hz))⟩
    · obtain ⟨hk1, hk2⟩ := List.getElem?_eq_some_iff.1 hk
      rw [List.length_take] at hk1
      rw [hcell k (by omega)]
      rw [List.getElem_take] at hk2
      have hkz : k < zs.length := by omega
      rw [List.getD_eq_getElem?_getD, List.getElem?_eq_getElem hkz, hk2]
      rfl
    · subst hx
      have h1 := bulk_length (lits (H := H) .i64 (zs.take n'))
      rw [show (lits (H := H) .i64 (zs.take n')).length = (zs.take n').length from by simp [lits], List.length_take] at h1
      simp only [Rows.uptoBulk]
      omega
set_option maxRecDepth 100000 in
theorem open_is {W : World} {r : Reach} {b0 : Nat} {v : Value} {d : DataW H} {ps : List MemPlace} (hval : Value.okWide Tryd.prog W r b0 34 v) (h : DataW.Trod enc Tryd.prog W 0 (fun _ => true) true 34 v d ps) :
    ∃ (A : Option Addr) (n cap : Nat) (zs : List Int), v = .slice A n cap ∧ IAt W A zs ∧ zs.length = n ∧ cap ≤ maxLen ∧ n ≤ cap ∧ n ≤ Rows.uptoBulk d ∧ ∀ z ∈ zs, inI z := by
  obtain ⟨A, n, cap, rfl⟩ := okWide_slice Tryd.underlying34 hval
  obtain ⟨fuel, hf⟩ := h
  obtain ⟨A', n', cap', zs, hcs, h1⟩ := cell_ints Tryd.underlying34 Tryd.underlying3 cellsI64 hf
  simp [Value.cells] at hcs
  obtain ⟨rfl, rfl, rfl⟩ := hcs
  exact ⟨A, n, cap, zs, rfl, h1⟩
set_option maxRecDepth 100000 in
theorem cell_place {W : World} {fuel : Nat} {cs : List Value} {x : DataW H × List MemPlace} (h : DataW.trod enc Tryd.prog W 0 (fun _ => true) true fuel 36 cs = some x) : ∃ p : Plc, cs = p.cells ∧ inI p.at_ := by
  obtain ⟨xs, k, _, _, hl, hlen, hf⟩ := DataW.trod_struct Tryd.underlying36 h
  rw [cellsPl] at hl
  match xs, hlen with
  | [y0, y1, y2, y3], _ =>
    have g0 : DataW.trod enc Tryd.prog W 0 (fun _ => true) true k 3 ((cs.drop 0).take (Tryd.prog.cellsOf 3)) = some y0 := hf 0 _ rfl
    have g1 : DataW.trod enc Tryd.prog W 0 (fun _ => true) true k 3 ((cs.drop 1).take (Tryd.prog.cellsOf 3)) = some y1 := hf 1 _ rfl
    have g2 : DataW.trod enc Tryd.prog W 0 (fun _ => true) true k 3 ((cs.drop 2).take (Tryd.prog.cellsOf 3)) = some y2 := hf 2 _ rfl
    have g3 : DataW.trod enc Tryd.prog W 0 (fun _ => true) true k 4 ((cs.drop 3).take (Tryd.prog.cellsOf 4)) = some y3 := hf 3 _ rfl
    rw [cellsI64] at g0 g1 g2
    rw [cellsBool] at g3
    obtain ⟨a, e0, _⟩ := DataW.trod_int Tryd.underlying3 g0
    obtain ⟨b, e1, _, w1⟩ := DataW.trod_int Tryd.underlying3 g1
    obtain ⟨c, e2, _⟩ := DataW.trod_int Tryd.underlying3 g2
    obtain ⟨d, e3, _⟩ := DataW.trod_bool Tryd.underlying4 g3
    match cs, hl with
    | [v0, v1, v2, v3], _ =>
      simp at e0 e1 e2 e3
      exact ⟨⟨a, b, c, d⟩, by rw [e0, e1, e2, e3]; rfl, wf_i64 w1⟩
set_option maxRecDepth 100000 in
theorem cell_op {W : World} {fuel : Nat} {cs : List Value} {x : DataW H × List MemPlace} (h : DataW.trod enc Tryd.prog W 0 (fun _ => true) true fuel 53 cs = some x) :
    ∃ o : OpH, cs = o.val.toList ∧ (o.L ≤ Rows.uptoBulk x.1 → o.L ≤ 140737488355327 → OpHOk W o) ∧ o.L ≤ Rows.uptoBulk x.1 := by
  obtain ⟨xs, k, _, hx, hl, hlen, hf⟩ := DataW.trod_struct Tryd.underlying53 h
  rw [cellsOp] at hl
  match xs, hlen with
  | [y0, y1, y2, y3, y4], _ =>
    have g0 : DataW.trod enc Tryd.prog W 0 (fun _ => true) true k 3 ((cs.drop 0).take (Tryd.prog.cellsOf 3)) = some y0 := hf 0 _ rfl
    have g1 : DataW.trod enc Tryd.prog W 0 (fun _ => true) true k 3 ((cs.drop 1).take (Tryd.prog.cellsOf 3)) = some y1 := hf 1 _ rfl
    have g2 : DataW.trod enc Tryd.prog W 0 (fun _ => true) true k 41 ((cs.drop 2).take (Tryd.prog.cellsOf 41)) = some y2 := hf 2 _ rfl
    have g3 : DataW.trod enc Tryd.prog W 0 (fun _ => true) true k 36 ((cs.drop 3).take (Tryd.prog.cellsOf 36)) = some y3 := hf 3 _ rfl
    have g4 : DataW.trod enc Tryd.prog W 0 (fun _ => true) true k 34 ((cs.drop 7).take (Tryd.prog.cellsOf 34)) = some y4 := hf 4 _ rfl
    rw [cellsI64] at g0 g1
    rw [cellsBS] at g2
    rw [cellsPl] at g3
    rw [cellsIS] at g4
    obtain ⟨a0, e0, _, w0⟩ := DataW.trod_int Tryd.underlying3 g0
    obtain ⟨a1, e1, _, w1⟩ := DataW.trod_int Tryd.underlying3 g1
    obtain ⟨B, bs, c, e2, hB, hbk⟩ := cell_bytes Tryd.underlying41 Tryd.underlying5 cellsU8 g2
    obtain ⟨p, e3, _⟩ := cell_place g3
    obtain ⟨AK, nk, ck, zs, e4, hz, hzl, hcm, hnc, _, _⟩ := cell_ints Tryd.underlying34 Tryd.underlying3 cellsI64 g4
    match cs, hl with
    | [v0, v1, v2, v3, v4, v5, v6, v7], _ =>
      simp [Plc.cells] at e0 e1 e2 e3 e4
      obtain ⟨e30, e31, e32, e33⟩ := e3
      refine ⟨⟨a0, a1, B, bs.length, c, p, AK, nk, ck, bs, zs⟩, by rw [e0, e1, e2, e30, e31, e32, e33, e4]; rfl, fun _ hL => ⟨wf_i64 w0, wf_i64 w1, hB, rfl, hL, hz, hzl, ?_⟩, ?_⟩
      · show nk ≤ _
        unfold maxLen at hcm
        omega
      · show bs.length ≤ _
        subst hx
        refine Nat.le_trans hbk ?_
        have := bulk_mem (l := [y0, y1, y2, y3, y4].map (·.1)) (d := y2.1) (by simp)
        simp only [Rows.uptoBulk]
        omega
set_option maxRecDepth 100000 in
/-- A row of calls. -/
theorem open_opsH {W : World} {r : Reach} {b0 : Nat} {v : Value} {d : DataW H} {ps : List MemPlace} (hval : Value.okWide Tryd.prog W r b0 50 v) (h : DataW.Trod enc Tryd.prog W 0 (fun _ => true) true 50 v d ps) (hbd : Rows.uptoBulk d ≤ 140737488355327) :
    ∃ (A : Option Addr) (n cap : Nat) (os : List OpH), v = .slice A n cap ∧ OpsHAt W A os ∧ os.length = n ∧ n ≤ Rows.uptoBulk d ∧ n ≤ cap := by
  obtain ⟨A, n, cap, rfl⟩ := okWide_slice Tryd.underlying50 hval
  obtain ⟨fuel, hf⟩ := h
  rcases DataW.trod_slice Tryd.underlying50 hf with ⟨hcs, hx⟩ | ⟨a, len, cap', elems, rest, m, _, hcs, hx, _, hl, _, hlen, hel, _, _⟩
  · simp [Value.cells] at hcs
    obtain ⟨rfl, rfl, rfl⟩ := hcs
    exact ⟨none, 0, 0, [], rfl, fun i o h => by simp at h, rfl, Nat.zero_le _, Nat.le_refl _⟩
  · simp [Value.cells] at hcs
    obtain ⟨rfl, rfl, rfl⟩ := hcs
    simp only [Prod.mk.injEq] at hx
    have hbulk : Rows.uptoBulk d = Rows.uptoBulkAll (elems.map (·.1)) + Rows.uptoBulkAll (rest.map (·.1)) + 1 := by rw [hx.1]; simp only [Rows.uptoBulk]
    obtain ⟨l, hll, hq⟩ := list_choose (α := OpH) n (fun i o => OpHAt W (a.add (i * 8)) o ∧ OpHOk W o) fun i hi => by
      have h1 := hel i hi
      rw [List.getElem?_eq_getElem (by omega), cellsOp, Option.bind_eq_some_iff] at h1
      obtain ⟨cs', hcs', hy⟩ := h1
      obtain ⟨o, rfl, ho, hoL⟩ := cell_op hy
      have hm := bulk_mem (l := elems.map (·.1)) (List.mem_map.2 ⟨elems[i], List.getElem_mem (by omega), rfl⟩)
      have hc := (World.cells?_some hcs').2.2
      have c0 := hc 0 (by decide)
      rw [show (a.add (i * 8)).add 0 = a.add (i * 8) from rfl] at c0
      exact ⟨o, ⟨c0, hc 1 (by decide), hc 2 (by decide), hc 3 (by decide), hc 4 (by decide), hc 5 (by decide), hc 6 (by decide), hc 7 (by decide)⟩, ho hoL (by omega)⟩
    refine ⟨some a, n, cap, l, rfl, fun i o ho => ?_, hll, ?_, hl⟩
    · obtain ⟨hi, he⟩ := List.getElem?_eq_some_iff.1 ho
      have g := hq i hi
      rw [he] at g
      exact ⟨a, rfl, g.1, g.2⟩
    · have h1 := bulk_length (elems.map (·.1))
      rw [List.length_map] at h1
      omega
end Go.Proofs.YtgcckfaljfkkhaaDoor.Hot
/- Opening a law's argument that is a row of places, or of rows of bytes. -/
namespace Go.Proofs.YtgcckfaljfkkhaaDoor.Hot
open Go.ChangeShapes Go.WideShapes Go.ChangeAt Go.RowKit Mem Law Pl
variable {H : Type} {enc : TypeId × Value → H}
set_option maxRecDepth 100000 in
theorem open_plsH {W : World} {r : Reach} {b0 : Nat} {v : Value} {d : DataW H} {ps : List MemPlace} (hval : Value.okWide Tryd.prog W r b0 22 v) (h : DataW.Trod enc Tryd.prog W 0 (fun _ => true) true 22 v d ps) :
    ∃ (A : Option Addr) (n cap : Nat) (os : List Plc), v = .slice A n cap ∧ PlsAt W A os ∧ os.length = n ∧ n ≤ Rows.uptoBulk d ∧ n ≤ cap := by
  obtain ⟨A, n, cap, rfl⟩ := okWide_slice Tryd.underlying22 hval
  obtain ⟨fuel, hf⟩ := h
  rcases DataW.trod_slice Tryd.underlying22 hf with ⟨hcs, hx⟩ | ⟨a, len, cap', elems, rest, m, _, hcs, hx, _, hl, _, hlen, hel, _, _⟩
  · simp [Value.cells] at hcs
    obtain ⟨rfl, rfl, rfl⟩ := hcs
    exact ⟨none, 0, 0, [], rfl, fun i o h => by simp at h, rfl, Nat.zero_le _, Nat.le_refl _⟩
  · simp [Value.cells] at hcs
    obtain ⟨rfl, rfl, rfl⟩ := hcs
    simp only [Prod.mk.injEq] at hx
    have hbulk : Rows.uptoBulk d = Rows.uptoBulkAll (elems.map (·.1)) + Rows.uptoBulkAll (rest.map (·.1)) + 1 := by rw [hx.1]; simp only [Rows.uptoBulk]
    obtain ⟨l, hll, hq⟩ := list_choose (α := Plc) n (fun i p => inI p.at_ ∧ PlAt W (a.add (i * 4)) p) fun i hi => by
      have h1 := hel i hi
      rw [List.getElem?_eq_getElem (by omega), cellsPl, Option.bind_eq_some_iff] at h1
      obtain ⟨cs', hcs', hy⟩ := h1
      obtain ⟨p, rfl, hin⟩ := cell_place hy
      have hc := (World.cells?_some hcs').2.2
      have c0 := hc 0 (by decide)
      rw [show (a.add (i * 4)).add 0 = a.add (i * 4) from rfl] at c0
      exact ⟨p, hin, c0, hc 1 (by decide), hc 2 (by decide), hc 3 (by decide)⟩
    refine ⟨some a, n, cap, l, rfl, fun i o ho => ?_, hll, ?_, hl⟩
    · obtain ⟨hi, he⟩ := List.getElem?_eq_some_iff.1 ho
      have g := hq i hi
      rw [he] at g
      exact ⟨a, rfl, g.1, g.2⟩
    · have h1 := bulk_length (elems.map (·.1))
      rw [List.length_map] at h1
      omega
/-- A row of rows of bytes. -/
def RowsAt (W : World) (A : Option Addr) (l : List (List UInt8)) : Prop := ∀ i b, l[i]? = some b → ∃ ad B c, A = some ad ∧ W.cell? (ad.add i) = some (.slice B b.length c) ∧ BAt W B b
set_option maxRecDepth 100000 in
theorem open_rowsH {W : World} {r : Reach} {b0 : Nat} {v : Value} {d : DataW H} {ps : List MemPlace} (hval : Value.okWide Tryd.prog W r b0 43 v) (h : DataW.Trod enc Tryd.prog W 0 (fun _ => true) true 43 v d ps) :
    ∃ (A : Option Addr) (n cap : Nat) (l : List (List UInt8)), v = .slice A n cap ∧ RowsAt W A l ∧ l.length = n ∧ n ≤ Rows.uptoBulk d ∧ ∀ b ∈ l, b.length ≤ Rows.uptoBulk d := by
  obtain ⟨A, n, cap, rfl⟩ := okWide_slice Tryd.underlying43 hval
  obtain ⟨fuel, hf⟩ := h
  rcases DataW.trod_slice Tryd.underlying43 hf with ⟨hcs, hx⟩ | ⟨a, len, cap', elems, rest, m, _, hcs, hx, _, hl, _, hlen, hel, _, _⟩
  · simp [Value.cells] at hcs
    obtain ⟨rfl, rfl, rfl⟩ := hcs
    exact ⟨none, 0, 0, [], rfl, fun i o h => by simp at h, rfl, Nat.zero_le _, fun b hb => by simp at hb⟩
  · simp [Value.cells] at hcs
    obtain ⟨rfl, rfl, rfl⟩ := hcs
    simp only [Prod.mk.injEq] at hx
    have hbulk : Rows.uptoBulk d = Rows.uptoBulkAll (elems.map (·.1)) + Rows.uptoBulkAll (rest.map (·.1)) + 1 := by rw [hx.1]; simp only [Rows.uptoBulk]
    obtain ⟨l, hll, hq⟩ := list_choose (α := List UInt8) n (fun i bs => (∃ (B : Option Addr) (c : Nat), W.cell? (a.add i) = some (.slice B bs.length c) ∧ BAt W B bs) ∧ bs.length ≤ Rows.uptoBulk d) fun i hi => by
      have h1 := hel i hi
      rw [List.getElem?_eq_getElem (by omega), cellsBS, Nat.mul_one, Option.bind_eq_some_iff] at h1
      obtain ⟨cs', hcs', hy⟩ := h1
      obtain ⟨B, bs, c, rfl, hB, hbk⟩ := cell_bytes Tryd.underlying41 Tryd.underlying5 cellsU8 hy
      have hm := bulk_mem (l := elems.map (·.1)) (List.mem_map.2 ⟨elems[i], List.getElem_mem (by omega), rfl⟩)
      exact ⟨bs, ⟨B, c, cell_of_cells?_one hcs', hB⟩, by omega⟩
    refine ⟨some a, n, cap, l, rfl, fun i b hb => ?_, hll, ?_, fun b hb => ?_⟩
    · obtain ⟨hi, he⟩ := List.getElem?_eq_some_iff.1 hb
      obtain ⟨⟨B, c, g1, g2⟩, _⟩ := hq i hi
      rw [he] at g1 g2
      exact ⟨a, B, c, rfl, g1, g2⟩
    · have h1 := bulk_length (elems.map (·.1))
      rw [List.length_map] at h1
      omega
    · obtain ⟨i, hi⟩ := List.getElem?_of_mem hb
      obtain ⟨hi, he⟩ := List.getElem?_eq_some_iff.1 hi
      rw [← he]
      exact (hq i hi).2
end Go.Proofs.YtgcckfaljfkkhaaDoor.Hot
/- A drawn region walked by a tree of orders: where a call that writes what no waiting operation reads may come up beside an allocation. -/
namespace Go.Proofs.YtgcckfaljfkkhaaDoor.Ord
open Go.RowKit Mem
section
variable {P : Program} {ops : Array Oper} {Q : Exit → Act → World → Prop} {md : Region.Mode} {L : List Nat}
/-- Two may come up next; the first is bound to nothing. -/
theorem tb_fork_free {i j k : Nat} {oi oj : Oper} {listed : Array Bool} {a : Act} {w : World} (hr : Region.ready md ops listed = [i, j]) (hi : ops[i]? = some oi) (hj : ops[j]? = some oj) (hki : keepsB P ops L i = false)
    (h1 : wpList P ops (NX (NP Q) fun a' w' => TB P md ops Q L k (listed.setIfInBounds i true) a' w') [oi] a w)
    (h2 : wpList P ops (NX (NP Q) fun a' w' => Below w.heap.size w w' ∧ TB P md ops Q L k (listed.setIfInBounds j true) a' w') [oj] a w) : TB P md ops Q L (k + 1) listed a w := fun hcl =>
  ⟨fun h0 => absurd h0 (by rw [hr]; simp), fun m hm => by
    have hm' := hm
    rw [hr] at hm'
    simp only [List.mem_cons, List.not_mem_nil, or_false] at hm'
    rcases hm' with rfl | rfl
    · exact wpOp_mono (fun a' w' x => ⟨fun h => (by rw [hki] at h; cases h), x (hcl.set hm)⟩) (wpOp_of_list hi h1)
    · exact wpOp_mono (fun a' w' x => ⟨fun _ => x.1, x.2 (hcl.set hm)⟩) (wpOp_of_list hj h2)⟩
end
end Go.Proofs.YtgcckfaljfkkhaaDoor.Ord
/- The law 'HotlogAgain'. -/
namespace Go.Proofs.YtgcckfaljfkkhaaDoor.Hot
open Go Go.RowKit Mem Pl Disk Crc _root_.Go.Proofs.YtgcckfaljfkkhaaDoor.Frame
theorem iat_cell2 {w : World} {A : Option Addr} {zs : List Int} {i : Nat} {z : Int} (h : IAt w A zs) (hz : zs[i]? = some z) : ∃ ad, A = some ad ∧ w.cell? (ad.add i) = some (.int .i64 z) := by
  rcases h with rfl | ⟨ad, hA, hc⟩
  · simp at hz
  · exact ⟨ad, hA, hc i z hz⟩
theorem plc_cells_one (p : Plc) : ∀ u ∈ p.cells, u.oneCell' = true := fun u hu => by
  simp [Plc.cells] at hu
  rcases hu with rfl | rfl | rfl | rfl <;> rfl
def AgA (W : World) (s a h n m : Nat) (l : List (List UInt8)) (k : Nat) (sv iv : Value) (wr : World) : Prop :=
  ∃ (i : Nat) (K : Nat → Prop) (bytes : List (List UInt8)), i + k = m ∧ iv = .int .i64 (i : Int) ∧ AgS W wr s a h n (17 * i) K (usedT (n / 16) l i) bytes ∧ Vec wr K 36 4 sv i ((firstT (n / 16) l i).flatMap Plc.cells)
def AgB (W : World) (s a h n m : Nat) (l : List (List UInt8)) (K1 : Nat → Prop) (fv : Value) (k : Nat) (lv iv : Value) (wx : World) : Prop :=
  ∃ (j : Nat) (K2 : Nat → Prop) (bytes : List (List UInt8)), j + k = m ∧ iv = .int .i64 (j : Int) ∧ AgS W wx s a h n (17 * m) (fun g => K1 g ∨ K2 g) (usedT (n / 16) l m) bytes ∧ (∀ g, K1 g → ¬ K2 g) ∧
    Vec wx K1 36 4 fv m ((firstT (n / 16) l m).flatMap Plc.cells) ∧ Vec wx K2 36 4 lv (usedT (n / 16) l j).length ((usedT (n / 16) l j).flatMap (pcCells 1))
def AgC (W : World) (s a h n m T : Nat) (l : List (List UInt8)) (K1 : Nat → Prop) (fv : Value) (g : Nat) (lv iv : Value) (wx : World) : Prop :=
  ∃ (i : Nat) (lf : List Pc) (K2 : Nat → Prop) (bytes : List (List UInt8)), lf.length = g ∧ i + g = T ∧ iv = .int .i64 (i : Int) ∧ AgS W wx s a h n (17 * m) (fun g => K1 g ∨ K2 g) lf bytes ∧ (∀ g, K1 g → ¬ K2 g) ∧
    Vec wx K1 36 4 fv m ((firstT (n / 16) l m).flatMap Plc.cells) ∧ Vec wx K2 36 4 lv lf.length (lf.flatMap (pcCells 1))
def AgD (W : World) (s a h n m : Nat) (l : List (List UInt8)) (K1 : Nat → Prop) (fv : Value) (k : Nat) (iv : Value) (wx : World) : Prop :=
  ∃ (i : Nat) (bytes : List (List UInt8)), i + k = m ∧ iv = .int .i64 (i : Int) ∧ AgS W wx s a h n (17 * m + 17 * i) K1 (usedT (n / 16) l i) bytes ∧
    Vec wx K1 36 4 fv m ((firstT (n / 16) l m).flatMap Plc.cells)
set_option maxRecDepth 100000 in
set_option maxHeartbeats 16000000 in
theorem lawHotAgain (z : Int) (hz : inI z) (AO : Option Addr) (m cap : Nat) (l : List (List UInt8)) (A2 : Option Addr) (n2 c2 : Nat) (zs2 : List Int) (W : World) (ht : Tabs W.heap.size W) (ho : RowsAt W AO l) (hl : l.length = m) (hm : m ≤ 10000000) (hml : ∀ b ∈ l, b.length ≤ 140737488355327) (h2 : IAt W A2 zs2) (hl2 : zs2.length = n2) (hi2 : ∀ z ∈ zs2, inI z) (hn2 : n2 ≤ 10000000) :
    Calls Tryd.prog 4 #[.int .i64 z, .slice AO m cap, .slice A2 n2 c2] W fun e W' => e = .returned (.bool true) ∧ Below W.heap.size W W' := by
  have HT := Lib.hid ht
  have HO := Lib.hid ho
  have HL := Lib.hid hl
  have HML := Lib.hid hml
  have H2 := Lib.hid h2
  have HL2 := Lib.hid hl2
  have HI2 := Lib.hid hi2
  have HWH := Lib.hid (fun w : World => which_any w z 120 (by omega) (by omega) hz)
  clear ht ho hl hml h2 hl2 hi2
  have hwl := whichM_lt z (show 0 < 120 by omega)
  obtain ⟨q, hq⟩ : ∃ q, whichM z 120 = q := ⟨_, rfl⟩
  rw [hq] at HWH hwl
  have hw1 : IntKind.i64.wrap (16 + (q : Int)) = ((16 + q : Nat) : Int) := by rw [IntWalk.i64_in _ (by omega)]; push_cast; rfl
  clear hq
  go_enter Tryd.func4, Tryd.ntmps4
  go_wp2_with fail
  refine (shown_any _ HT.out).mono ?_
  rintro e w1 ⟨rfl, hb1⟩
  have HB1 := Lib.hid hb1
  clear hb1
  go_wp2_with fail
  refine (HWH.out _).mono ?_
  rintro e _ ⟨rfl, rfl⟩
  have HBG := Lib.hid (begun_any w1 (16 + q) (by omega) (by omega) (HT.out.below HB1.out (Nat.le_refl _)) HB1.out.size)
  obtain ⟨n, hn⟩ : ∃ n, 16 + q = n := ⟨_, rfl⟩
  rw [hn] at HBG hw1
  have hn135 : n ≤ 135 := by omega
  go_wp2_with fail
  refine HBG.out.mono ?_
  rintro e w2 ⟨s, a, h, r, F, H, G, segs, rfl, hs, _, _, hb2⟩
  have HS0 : Hid (AgS W w2 s a h n 0 (fun _ => False) [] []) := Lib.hid ⟨⟨F, H, _, _, segs, ⟨hs.hot, hs.held, rfl, hs.on, rfl, hs.hB, hs.tabs⟩, hs.sF, hs.sH, fun g hg => hg.elim⟩, hs.c0.2.1, hs.sB, hs.blk.lt, fun h => h, fun g hg => hg.elim, HB1.out.trans (hb2.mono HB1.out.size)⟩
  clear hs hb2 HBG HB1 HWH hw1 hn hwl
  have hba : Below w2.heap.size w2 (w2.alloc (.cells #[] 36)) := below_al' _
  have HS1 := Lib.hid (HS0.out.grow hba)
  clear hba HS0
  go_upto_region 8 with fail
  generalize Grow (fun _ => False) w2 (w2.alloc (.cells #[] 36)) = K0 at HS1
  generalize w2.alloc (.cells #[] 36) = w3 at *
  generalize w2.heap.size = g2 at *
  go_wp2_with fail
  go_loopg [9, 10] m (fun k sv iv wr => AgA W s a h n m l k sv iv wr)
  case atStart => exact ⟨0, K0, [], by omega, rfl, HS1.out, Vec.nil_ _ _ _ _ _⟩
  case round =>
    obtain ⟨i, K, bytes, hi, rfl, hs, hv⟩ := hrel
    have HS := Lib.hid hs
    have HV := Lib.hid hv
    have HGI := Lib.hid hi
    obtain ⟨AS, cS, rfl⟩ := hv.shape
    clear hs hv hi HS1
    by_cases hlt : i < m
    · have hiI : (i : Int) < (m : Int) := by omega
      obtain ⟨b, hbo⟩ : ∃ b, l[i]? = some b := ⟨_, List.getElem?_eq_getElem (by rw [HL.out]; exact hlt)⟩
      obtain ⟨ad, B, c, hA, hcell, hbat⟩ := HO.out i b hbo
      subst hA
      have x0 := (HS.out.hb.cell (cell_lt hcell)).trans hcell
      have hbl := HML.out b (List.mem_of_getElem? hbo)
      have hgd : l.getD i [] = b := by rw [List.getD_eq_getElem?_getD, hbo]; rfl
      have HUL := Lib.hid (usedT_len (n / 16) l i)
      have HAP := Lib.hid (fun w (hb : Below wr.heap.size wr w) => (HS.out.grow hb).append (by omega) (by have := HUL.out; omega) B b.length c b (hbat.below (HS.out.hb.trans (hb.mono HS.out.hb.size))) rfl (by omega))
      obtain ⟨qq, hqq⟩ : ∃ qq, stepA (n / 16) (usedT (n / 16) l i) b = qq := ⟨_, rfl⟩
      rw [hqq] at HAP
      have HQ := Lib.hid hqq
      have HGD := Lib.hid hgd
      have c1 := HS.out.c1
      have hls := HS.out.sl
      clear hcell hbat hqq hgd
      go_upto_region 11 with fail
      go_cut [11, 12] from 37 to 48 (fun xv ev wc => ∃ gX bytes', xv = .pointer (some ⟨gX, 0, none⟩) ∧ ev = .int .i64 (codeA b qq) ∧ Blk wc gX 36 (plcOf qq).cells.toArray ∧ AgS W wc s a h n (17 * i + 17) (fun g => K g ∨ g = gX) (usedT (n / 16) l i ++ qq.toList) bytes' ∧ Mods wr.heap.size (Other W wr s K) wr wc ∧ wr.heap.size ≤ gX)
      case first =>
        refine Ord.tb_start [] (by kernel_rfl) (Ord.tb_pre [0, 1, 2, 3, 4, 5, 6, 7] [_, _, _, _, _, _, _, _] (k := 7) (by kernel_rfl) rfl rfl (by kernel_rfl) ?_)
        go_wp2_with fail
        refine Ord.nx_tb (Ord.tb_fork_free (i := 8) (j := 12) (k := 6) (by kernel_rfl) rfl rfl (by kernel_rfl) ?_ ?_)
        · go_wp2_with fail
          refine (HAP.out _ (below_drewN (Below.refl _ _) 1)).mono ?_
          rintro e w3 ⟨rfl, ⟨bytes', hs3⟩, hm3⟩
          have HS3 := Lib.hid (hs3.less (K' := K) fun g hg => .inl hg)
          have HM3 := Lib.hid (show Mods wr.heap.size (Other W wr s K) wr w3 from ((Mods.refl wr.heap.size (Other W wr s K) wr).drew).trans (hm3.mono (Nat.le_refl _) fun g _ hg => ⟨hg.1, fun hk => hg.2.1 (.inl hk), hg.2.2⟩))
          have HN := Lib.hid (Blk.new w3 36 #[.int .i64 0, .int .i64 0, .int .i64 0, .bool false])
          clear hs3 hm3
          go_wp2_with fail
          refine Ord.nx_tb (Ord.tb_ords [9, 10, 11, 12, 13, 14] (by kernel_rfl) rfl (by kernel_rfl) (Ord.ord_all [_, _, _, _, _, _] rfl (by kernel_rfl) ?_))
          go_wp2_with
            (refine wpList_store_all rfl 36 (.tmp 11) (.tmp 47) rfl w3.heap.size 36 [.int .i64 0, .int .i64 0, .int .i64 0, .bool false] (plcOf qq).cells rfl rfl (HN.out) rfl (by kernel_rfl) (plc_cells_one _) ?_
             intro w6 hb6 hg6 hz6
             have HB6 := Lib.hid hb6
             have HG6 := Lib.hid hg6
             clear hb6 hg6 hz6)
          refine Ord.nx_end ?_
          go_wp2_with fail
          go_meet
          exact ⟨w3.heap.size, bytes', rfl, rfl, HB6.out, ((HS3.out.grow (below_al' (w := w3) _)).write HG6.out (.inr ⟨Nat.le_refl _, by simp⟩)).less fun g hg => hg.elim .inl fun e => .inr ⟨by rw [e]; exact Nat.le_refl _, by rw [e]; simp⟩, HM3.out.then_below (fit_row (below_al' (w := w3) _) HG6.out (Nat.le_refl _) (by simp)) HM3.out.size, HM3.out.size⟩
        · go_wp2_with fail
          refine Ord.nx_tb2 (below_al' _) (Ord.tb_ords [8, 9, 10, 11, 13, 14] (by kernel_rfl) rfl (by kernel_rfl) (Ord.ord_all [_, _, _, _, _, _] rfl (by kernel_rfl) ?_))
          go_wp2_with fail
          have hbA : Below wr.heap.size wr (wr.drew.alloc (.cells #[.int .i64 0, .int .i64 0, .int .i64 0, .bool false] 36)) := (below_drewN (Below.refl _ _) 1).trans (show Below wr.heap.size wr.drew _ from below_al' (w := wr.drew) _)
          have HBA := Lib.hid hbA
          refine (HAP.out _ hbA).mono ?_
          rintro e w3 ⟨rfl, ⟨bytes', hs3⟩, hm3⟩
          have hlA : wr.heap.size < (wr.drew.alloc (.cells #[.int .i64 0, .int .i64 0, .int .i64 0, .bool false] 36)).heap.size := by show wr.heap.size < (wr.alloc (.cells #[.int .i64 0, .int .i64 0, .int .i64 0, .bool false] 36)).heap.size; simp
          have HS3 := Lib.hid hs3
          have HN := Lib.hid ((Blk.new wr.drew 36 #[.int .i64 0, .int .i64 0, .int .i64 0, .bool false]).mods hm3 hlA fun ho => ho.2.1 (.inr ⟨Nat.le_refl _, hlA⟩))
          have HM3 := Lib.hid (show Mods wr.heap.size (Other W wr s K) wr w3 from (Mods.of_below HBA.out).trans (hm3.mono HBA.out.size fun g _ hg => ⟨hg.1, fun hk => hg.2.1 (.inl hk), hg.2.2⟩))
          clear hs3 hm3
          go_wp2_with
            (refine wpList_store_all rfl 36 (.tmp 11) (.tmp 47) rfl wr.heap.size 36 [.int .i64 0, .int .i64 0, .int .i64 0, .bool false] (plcOf qq).cells rfl rfl (HN.out) rfl (by kernel_rfl) (plc_cells_one _) ?_
             intro w6 hb6 hg6 hz6
             have HB6 := Lib.hid hb6
             have HG6 := Lib.hid hg6
             clear hb6 hg6 hz6)
          refine Ord.nx_end ?_
          go_wp2_with fail
          go_meet
          exact ⟨wr.heap.size, bytes', rfl, rfl, HB6.out, (HS3.out.write HG6.out (.inr ⟨Nat.le_refl _, hlA⟩)).less fun g hg => hg.elim .inl fun e => .inr ⟨by rw [e]; exact Nat.le_refl _, by rw [e]; exact hlA⟩, HM3.out.then_below (fit_row (Below.refl wr.heap.size w3 |>.mono (Nat.le_refl _)) HG6.out (Nat.le_refl _) HM3.out.size) (Nat.le_refl _), Nat.le_refl _⟩
      case rest =>
        obtain ⟨gX, bytes', rfl, rfl, hk, hs, hm, hge⟩ := hcut
        have HK := Lib.hid hk
        have HSC := Lib.hid hs
        have HVC := Lib.hid (HV.out.mods hm fun g hg hK => ⟨hg, fun ho => ho.2.1 hK⟩)
        have hltX := hk.lt
        have hKl : ∀ g, K g → g < wr.heap.size := fun g hg => (HS.out.kK g hg).2
        clear hk hs hm x0 c1 hls HAP HS HV
        cases qq with
        | some u =>
          simp only [codeA]
          go_upto_region 16 with fail
          have HKZ := Lib.hid (show Blk wc gX 36 #[.int .i64 1, .int .i64 (u.1 : Int), .int .i64 (u.2 : Int), .bool false] from HK.out)
          have HSZ := Lib.hid (HSC.out.less (K' := K) fun g hg => .inl hg)
          have HVZ := HVC
          generalize hwc : wc = w4 at *
          clear hwc
          have k0 := (HKZ.out.cell 0).trans (show _ = some (.int .i64 1) from rfl)
          have k1 := (HKZ.out.cell 1).trans (show _ = some (.int .i64 (u.1 : Int)) from rfl)
          have k2 := (HKZ.out.cell 2).trans (show _ = some (.int .i64 (u.2 : Int)) from rfl)
          have k3 := (HKZ.out.cell 3).trans (show _ = some (.bool false) from rfl)
          have klt := HKZ.out.lt
          have hba := below_al' (w := w4) (.cells #[.int .i64 1, .int .i64 (u.1 : Int), .int .i64 (u.2 : Int), .bool false] 36)
          have HSA := Lib.hid (HSZ.out.grow hba)
          have HVA := Lib.hid (HVZ.out.below hba)
          clear hba
          have hil : i ≤ 10000000 := by omega
          go_wp2_with
            (refine wpList_buildSlice_row rfl 22 36 (.tmp 59) rfl placeTy [.int .i64 1, .int .i64 (u.1 : Int), .int .i64 (u.2 : Int), .bool false] rfl (show _ = 1 * 4 from rfl) (by omega) w4.heap.size rfl ?_
             go_wp2_with
               (refine wpList_append_vec rfl (.tmp 58) (.tmp 60) _ rfl 32 _ placeTy rfl HVA.out ⟨w4.heap.size, 0, none⟩ 1 1 [.int .i64 1, .int .i64 (u.1 : Int), .int .i64 (u.2 : Int), .bool false] rfl (show _ = 1 * 4 from rfl) (blk_news (Blk.new w4 _ _)) (by intro v hv; simp at hv; rcases hv with rfl | rfl | rfl | rfl <;> rfl) ?c1 ?c2 ?_
                case c1 => unfold maxLen; omega
                case c2 => omega
                intro W7 w7 row7 hv7 hg7 hr7
                have HV7 := Lib.hid hv7
                have HS7 := Lib.hid (HSA.out.grown hg7 fun g e => by
                  rcases hr7 with h | ⟨g', _, h, h2, _⟩
                  · rw [h] at e; cases e
                  · rw [h] at e
                    injection e with e
                    rw [← e]
                    exact .inl h2)
                clear hv7 hg7 hr7 k0 k1 k2 k3))
          have hv7 := HV7.out.mono (G := Grow (Grow K w4 (w4.alloc (.cells #[.int .i64 1, .int .i64 (u.1 : Int), .int .i64 (u.2 : Int), .bool false] 36))) (w4.alloc (.cells #[.int .i64 1, .int .i64 (u.1 : Int), .int .i64 (u.2 : Int), .bool false] 36)) w7) fun g _ hg => hg.elim (fun h => .inl (.inl h)) .inr
          go_roundg (gk - 1)
          case measure => have := HGI.out; omega
          case rel => exact ⟨i + 1, _, _, by have := HGI.out; omega, by go_num, by rw [show 17 * (i + 1) = 17 * i + 17 by omega]; show AgS W w7 s a h n (17 * i + 17) _ (usedT (n / 16) l i ++ (stepA (n / 16) (usedT (n / 16) l i) (l.getD i [])).toList) _; rw [HGD.out, HQ.out]; exact HS7.out, by rw [firstT_next, List.flatMap_append]; unfold placeA; rw [HGD.out, HQ.out]; exact hv7⟩
        | none =>
          have HKN := Lib.hid (show Blk wc gX 36 [.int .i64 0, .int .i64 0, .int .i64 0, .bool false].toArray from HK.out)
          by_cases h512 : 512 < b.length
          · simp only [codeA, if_pos h512]
            go_upto_region 16 with
              (refine wpList_store_all rfl 36 (.tmp 11) (.tmp 55) rfl gX 36 [.int .i64 0, .int .i64 0, .int .i64 0, .bool false] [.int .i64 0, .int .i64 0, .int .i64 0, .bool false] rfl rfl (HKN.out) rfl (by kernel_rfl) pc0_one ?_
               intro w4 hb6 hg6 hz6
               have HKZ := Lib.hid hb6
               have HG6 := Lib.hid hg6
               clear hb6 hg6 hz6)
            have HSZ := Lib.hid ((HSC.out.write HG6.out (.inr rfl)).less (K' := K) fun g hg => .inl hg)
            have HVZ := Lib.hid (HVC.out.mods (mods_row HG6.out) fun g hg hK => ⟨hg, fun e => by have := hKl g hK; omega⟩)
            have k0 := (HKZ.out.cell 0).trans (show _ = some (.int .i64 0) from rfl)
            have k1 := (HKZ.out.cell 1).trans (show _ = some (.int .i64 0) from rfl)
            have k2 := (HKZ.out.cell 2).trans (show _ = some (.int .i64 0) from rfl)
            have k3 := (HKZ.out.cell 3).trans (show _ = some (.bool false) from rfl)
            have klt := HKZ.out.lt
            have hba := below_al' (w := w4) (.cells #[.int .i64 0, .int .i64 0, .int .i64 0, .bool false] 36)
            have HSA := Lib.hid (HSZ.out.grow hba)
            have HVA := Lib.hid (HVZ.out.below hba)
            clear hba
            have hil : i ≤ 10000000 := by omega
            go_wp2_with
              (refine wpList_buildSlice_row rfl 22 36 (.tmp 59) rfl placeTy [.int .i64 0, .int .i64 0, .int .i64 0, .bool false] rfl (show _ = 1 * 4 from rfl) (by omega) w4.heap.size rfl ?_
               go_wp2_with
                 (refine wpList_append_vec rfl (.tmp 58) (.tmp 60) _ rfl 32 _ placeTy rfl HVA.out ⟨w4.heap.size, 0, none⟩ 1 1 [.int .i64 0, .int .i64 0, .int .i64 0, .bool false] rfl (show _ = 1 * 4 from rfl) (blk_news (Blk.new w4 _ _)) (by intro v hv; simp at hv; rcases hv with rfl | rfl | rfl | rfl <;> rfl) ?c1 ?c2 ?_
                  case c1 => unfold maxLen; omega
                  case c2 => omega
                  intro W7 w7 row7 hv7 hg7 hr7
                  have HV7 := Lib.hid hv7
                  have HS7 := Lib.hid (HSA.out.grown hg7 fun g e => by
                    rcases hr7 with h | ⟨g', _, h, h2, _⟩
                    · rw [h] at e; cases e
                    · rw [h] at e
                      injection e with e
                      rw [← e]
                      exact .inl h2)
                  clear hv7 hg7 hr7 k0 k1 k2 k3))
            have hv7 := HV7.out.mono (G := Grow (Grow K w4 (w4.alloc (.cells #[.int .i64 0, .int .i64 0, .int .i64 0, .bool false] 36))) (w4.alloc (.cells #[.int .i64 0, .int .i64 0, .int .i64 0, .bool false] 36)) w7) fun g _ hg => hg.elim (fun h => .inl (.inl h)) .inr
            go_roundg (gk - 1)
            case measure => have := HGI.out; omega
            case rel => exact ⟨i + 1, _, _, by have := HGI.out; omega, by go_num, by rw [show 17 * (i + 1) = 17 * i + 17 by omega]; show AgS W w7 s a h n (17 * i + 17) _ (usedT (n / 16) l i ++ (stepA (n / 16) (usedT (n / 16) l i) (l.getD i [])).toList) _; rw [HGD.out, HQ.out]; exact HS7.out, by rw [firstT_next, List.flatMap_append]; unfold placeA; rw [HGD.out, HQ.out]; exact hv7⟩
          · simp only [codeA, if_neg h512]
            go_upto_region 16 with
              (refine wpList_store_all rfl 36 (.tmp 11) (.tmp 55) rfl gX 36 [.int .i64 0, .int .i64 0, .int .i64 0, .bool false] [.int .i64 0, .int .i64 0, .int .i64 0, .bool false] rfl rfl (HKN.out) rfl (by kernel_rfl) pc0_one ?_
               intro w4 hb6 hg6 hz6
               have HKZ := Lib.hid hb6
               have HG6 := Lib.hid hg6
               clear hb6 hg6 hz6)
            have HSZ := Lib.hid ((HSC.out.write HG6.out (.inr rfl)).less (K' := K) fun g hg => .inl hg)
            have HVZ := Lib.hid (HVC.out.mods (mods_row HG6.out) fun g hg hK => ⟨hg, fun e => by have := hKl g hK; omega⟩)
            have k0 := (HKZ.out.cell 0).trans (show _ = some (.int .i64 0) from rfl)
            have k1 := (HKZ.out.cell 1).trans (show _ = some (.int .i64 0) from rfl)
            have k2 := (HKZ.out.cell 2).trans (show _ = some (.int .i64 0) from rfl)
            have k3 := (HKZ.out.cell 3).trans (show _ = some (.bool false) from rfl)
            have klt := HKZ.out.lt
            have hba := below_al' (w := w4) (.cells #[.int .i64 0, .int .i64 0, .int .i64 0, .bool false] 36)
            have HSA := Lib.hid (HSZ.out.grow hba)
            have HVA := Lib.hid (HVZ.out.below hba)
            clear hba
            have hil : i ≤ 10000000 := by omega
            go_wp2_with
              (refine wpList_buildSlice_row rfl 22 36 (.tmp 59) rfl placeTy [.int .i64 0, .int .i64 0, .int .i64 0, .bool false] rfl (show _ = 1 * 4 from rfl) (by omega) w4.heap.size rfl ?_
               go_wp2_with
                 (refine wpList_append_vec rfl (.tmp 58) (.tmp 60) _ rfl 32 _ placeTy rfl HVA.out ⟨w4.heap.size, 0, none⟩ 1 1 [.int .i64 0, .int .i64 0, .int .i64 0, .bool false] rfl (show _ = 1 * 4 from rfl) (blk_news (Blk.new w4 _ _)) (by intro v hv; simp at hv; rcases hv with rfl | rfl | rfl | rfl <;> rfl) ?c1 ?c2 ?_
                  case c1 => unfold maxLen; omega
                  case c2 => omega
                  intro W7 w7 row7 hv7 hg7 hr7
                  have HV7 := Lib.hid hv7
                  have HS7 := Lib.hid (HSA.out.grown hg7 fun g e => by
                    rcases hr7 with h | ⟨g', _, h, h2, _⟩
                    · rw [h] at e; cases e
                    · rw [h] at e
                      injection e with e
                      rw [← e]
                      exact .inl h2)
                  clear hv7 hg7 hr7 k0 k1 k2 k3))
            have hv7 := HV7.out.mono (G := Grow (Grow K w4 (w4.alloc (.cells #[.int .i64 0, .int .i64 0, .int .i64 0, .bool false] 36))) (w4.alloc (.cells #[.int .i64 0, .int .i64 0, .int .i64 0, .bool false] 36)) w7) fun g _ hg => hg.elim (fun h => .inl (.inl h)) .inr
            go_roundg (gk - 1)
            case measure => have := HGI.out; omega
            case rel => exact ⟨i + 1, _, _, by have := HGI.out; omega, by go_num, by rw [show 17 * (i + 1) = 17 * i + 17 by omega]; show AgS W w7 s a h n (17 * i + 17) _ (usedT (n / 16) l i ++ (stepA (n / 16) (usedT (n / 16) l i) (l.getD i [])).toList) _; rw [HGD.out, HQ.out]; exact HS7.out, by rw [firstT_next, List.flatMap_append]; unfold placeA; rw [HGD.out, HQ.out]; exact hv7⟩
    · obtain rfl : m = i := by have := HGI.out; omega
      have hiI : ¬ ((m : Nat) : Int) < (m : Int) := by omega
      have hba := below_al' (w := wr) (.cells #[] 36)
      have HS2 := Lib.hid (HS.out.grow hba)
      have HV2 := Lib.hid (HV.out.below hba)
      have hK1 : ∀ g, K g → ¬ (wr.heap.size ≤ g ∧ g < (wr.alloc (.cells #[] 36)).heap.size) := fun g hg h => by have := (HS.out.kK g hg).2; omega
      have HK1 := Lib.hid hK1
      clear hba hK1 HS HV HGI
      go_upto_region 18 with fail
      go_wp2_with fail
      go_loopg [13, 14] m (fun k lv iv wx => AgB W s a h n m l K (.slice AS m cS) k lv iv wx)
      case atStart => exact ⟨0, fun g => wr.heap.size ≤ g ∧ g < (wr.alloc (.cells #[] 36)).heap.size, bytes, by omega, rfl, HS2.out, HK1.out, HV2.out, Vec.nil_ _ _ _ _ _⟩
      case round =>
        obtain ⟨j, K2, bytes', hj, rfl, hs, hdis, hv1, hv2⟩ := hrel
        have HS := Lib.hid hs
        have HD := Lib.hid hdis
        have HV1 := Lib.hid hv1
        have HVL := Lib.hid hv2
        have HGJ := Lib.hid hj
        obtain ⟨AL, cL, rfl⟩ := hv2.shape
        clear hs hdis hv2 hj HS2 HV2
        by_cases hlt : j < m
        · have hjI : (j : Int) < (m : Int) := by omega
          have hpj := firstT_get (nseg := n / 16) (l := l) hlt
          obtain ⟨qq, hqq⟩ : ∃ qq, stepA (n / 16) (usedT (n / 16) l j) (l.getD j []) = qq := ⟨_, rfl⟩
          have hpq : placeA (n / 16) l j = plcOf qq := by unfold placeA; rw [hqq]
          rw [hpq] at hpj
          obtain ⟨gS, hAS, x0⟩ := hv1.cell (j * 4) _ (by rw [show j * 4 = j * 4 + 0 from rfl, plc_get hpj (by omega)]; rfl)
          subst hAS
          have x1 := hv1.at_ (k := j * 4 + 1) (by rw [plc_get hpj (by omega)]; rfl)
          have x2 := hv1.at_ (k := j * 4 + 2) (by rw [plc_get hpj (by omega)]; rfl)
          have x3 := hv1.at_ (k := j * 4 + 3) (by rw [plc_get hpj (by omega)]; rfl)
          have HQ := Lib.hid hqq
          have HUL := Lib.hid (usedT_len (n / 16) l j)
          have hKl : Hid (∀ g, K g → g < wr.heap.size) := Lib.hid fun g hg => (HS.out.kK g (.inl hg)).2
          have HNX := Lib.hid (show usedT (n / 16) l (j + 1) = usedT (n / 16) l j ++ qq.toList by show _ ++ _ = _; rw [hqq])
          clear hqq hpq hpj hv1
          cases qq with
          | none =>
            replace x2 : wr.cell? ⟨gS, j * 4 + 2, none⟩ = some (.int .i64 0) := x2
            go_wp2_with fail
            go_roundg (gk - 1)
            case measure => have := HGJ.out; omega
            case rel => exact ⟨j + 1, K2, bytes', by have := HGJ.out; omega, by go_num, HS.out, HD.out, HV1.out, by rw [HNX.out, Option.toList_none, List.append_nil]; exact HVL.out⟩
          | some u =>
            have hpos : (0 : Int) < (u.2 : Int) := by
              have := (stepA_cost HQ.out).1
              unfold costM at this
              omega
            replace x0 : wr.cell? ⟨gS, j * 4, none⟩ = some (.int .i64 1) := x0
            replace x1 : wr.cell? ⟨gS, j * 4 + 1, none⟩ = some (.int .i64 (u.1 : Int)) := x1
            replace x2 : wr.cell? ⟨gS, j * 4 + 2, none⟩ = some (.int .i64 (u.2 : Int)) := x2
            replace x3 : wr.cell? ⟨gS, j * 4 + 3, none⟩ = some (.bool false) := x3
            have hba := below_al' (w := wr) (.cells #[.int .i64 1, .int .i64 (u.1 : Int), .int .i64 (u.2 : Int), .bool false] 36)
            have HSA := Lib.hid (HS.out.grow hba)
            have HVA := Lib.hid (HVL.out.below hba)
            have HV1A := Lib.hid (HV1.out.below hba)
            clear hba
            have hul : (usedT (n / 16) l j).length ≤ 10000000 := by have := HUL.out; omega
            go_wp2_with
              (refine wpList_buildSlice_row rfl 22 36 (.tmp 79) rfl placeTy [.int .i64 1, .int .i64 (u.1 : Int), .int .i64 (u.2 : Int), .bool false] rfl (show _ = 1 * 4 from rfl) (by omega) wr.heap.size rfl ?_
               go_wp2_with
                 (refine wpList_append_vec rfl (.tmp 75) (.tmp 80) _ rfl 32 _ placeTy rfl HVA.out ⟨wr.heap.size, 0, none⟩ 1 1 [.int .i64 1, .int .i64 (u.1 : Int), .int .i64 (u.2 : Int), .bool false] rfl (show _ = 1 * 4 from rfl) (blk_news (Blk.new wr _ _)) (by intro v hv; simp at hv; rcases hv with rfl | rfl | rfl | rfl <;> rfl) ?c1 ?c2 ?_
                  case c1 => unfold maxLen; omega
                  case c2 => omega
                  intro W7 w7 row7 hv7 hg7 hr7
                  have HV7 := Lib.hid hv7
                  have hrow : ∀ g, row7 = some g → K2 g := fun g e => by
                    rcases hr7 with h | ⟨g', _, h, h2, _⟩
                    · rw [h] at e; cases e
                    · rw [h] at e
                      injection e with e
                      rw [← e]
                      exact h2
                  have HS7 := Lib.hid (HSA.out.grown hg7 fun g e => .inl (.inr (hrow g e)))
                  have HV17 := Lib.hid (HV1A.out.mods (Mods.grown (Mods.refl _ K2 _) hg7 (Nat.le_refl _) fun g e => .inl (hrow g e)) fun g hlt hK => ⟨hlt, HD.out g hK⟩)
                  clear hv7 hg7 hr7 hrow x0 x1 x2 x3))
            go_roundg (gk - 1)
            case measure => have := HGJ.out; omega
            case rel =>
              refine ⟨j + 1, Grow (Grow K2 wr (wr.alloc (.cells #[.int .i64 1, .int .i64 (u.1 : Int), .int .i64 (u.2 : Int), .bool false] 36))) (wr.alloc (.cells #[.int .i64 1, .int .i64 (u.1 : Int), .int .i64 (u.2 : Int), .bool false] 36)) w7, bytes', by have := HGJ.out; omega, by go_num, HS7.out.less fun g hg => ?_, fun g hg hk => ?_, HV17.out, ?_⟩
              · rcases hg with hg | (hg | hg) | hg
                · exact .inl (.inl (.inl hg))
                · exact .inl (.inl (.inr hg))
                · exact .inl (.inr hg)
                · exact .inr hg
              · have hl := hKl.out g hg
                rcases hk with (hk | hk) | hk
                · exact HD.out g hg hk
                · have := hk.1; omega
                · have := hk.1; simp at this; omega
              · rw [HNX.out]
                simp only [Option.toList_some, List.length_append, List.flatMap_append]
                exact HV7.out.mono fun g _ hg => hg.elim (fun h => .inl (.inl h)) .inr
        · obtain rfl : m = j := by have := HGJ.out; omega
          have hjI : ¬ ((m : Nat) : Int) < (m : Int) := by omega
          have HUT := Lib.hid (usedT_len (n / 16) l m)
          obtain ⟨T, hT⟩ : ∃ T, (usedT (n / 16) l m).length = T := ⟨_, rfl⟩
          have HTE := Lib.hid hT
          have hTm : T ≤ 10000000 := by have := HUT.out; omega
          rw [hT] at HVL
          clear hT
          go_upto_region 24 with fail
          go_loopg [13, 15] T (fun g lv iv wx => AgC W s a h n m T l K (.slice AS m cS) g lv iv wx)
          case atStart => exact ⟨0, usedT (n / 16) l m, K2, bytes', HTE.out, by omega, rfl, HS.out, HD.out, HV1.out, by rw [HTE.out]; exact HVL.out⟩
          case round =>
            obtain ⟨i, lf, K2, bytes, hlf, hiT, rfl, hs, hdis, hv1, hv2⟩ := hrel
            have HS := Lib.hid hs
            have HD := Lib.hid hdis
            have HV1 := Lib.hid hv1
            have HVL := Lib.hid hv2
            have HLF := Lib.hid hlf
            have hiTm : i ≤ 10000000 := by omega
            have HIT := Lib.hid hiT
            obtain ⟨AL, cL, rfl⟩ := hv2.shape
            have hlfm : lf.length ≤ 10000000 := by omega
            clear hs hdis hv1 hv2 hlf hiT
            by_cases hlt : 0 < lf.length
            · have hltI : (0 : Int) < (lf.length : Int) := by omega
              go_upto_region 27 with fail
              go_upto_if 90 with fail
              go_cut [16] from 87 to 97 (fun kv wc => wc = wr ∧ ∃ k : Nat, k < lf.length ∧ kv = .int .i64 (k : Int))
              case first =>
                by_cases hin : i < n2
                · have hinI : (i : Int) < (n2 : Int) := by omega
                  obtain ⟨z2, hz2⟩ : ∃ z2, zs2[i]? = some z2 := ⟨_, List.getElem?_eq_getElem (by rw [HL2.out]; exact hin)⟩
                  obtain ⟨ad2, hA2, x0⟩ := iat_cell2 (H2.out.below HS.out.hb) hz2
                  subst hA2
                  have HW2 := Lib.hid (fun w : World => which_any w z2 lf.length hlt (by omega) (HI2.out z2 (List.mem_of_getElem? hz2)))
                  have hkl := whichM_lt z2 hlt
                  clear hz2
                  go_wp2_with fail
                  refine (HW2.out _).mono ?_
                  rintro e _ ⟨rfl, rfl⟩
                  go_wp2_with fail
                  go_meet
                  exact ⟨rfl, _, hkl, rfl⟩
                · have hinI : ¬ (i : Int) < (n2 : Int) := by omega
                  go_wp2_with fail
                  go_meet
                  exact ⟨rfl, 0, hlt, rfl⟩
              case rest =>
                obtain ⟨rfl, k, hk, rfl⟩ := hcut
                have hkI : (k : Int) < (lf.length : Int) := by omega
                obtain ⟨u, hu⟩ : ∃ u, lf[k]? = some u := ⟨_, List.getElem?_eq_getElem hk⟩
                obtain ⟨gL, cL', hU, e0, e1, e2, e3⟩ := used_cells HVL.out hu
                have e0 : wc.cell? ⟨gL, k * 4, none⟩ = some (.int .i64 1) := e0
                injection hU with hA1 _ hA2
                subst hA1 hA2
                have HFR := Lib.hid (fun w (hb : Below wc.heap.size wc w) => ((HS.out.grow hb).less (K' := fun g => K g ∨ K2 g) fun g hg => .inl hg).free (by omega) hu false)
                have c1 := HS.out.c1
                have hls := HS.out.sl
                have HU := Lib.hid hu
                clear hu
                go_wp2_with fail
                refine Ord.region_ord [] [0, 1, 2, 3, 4, 5, 6, 7, 8, 9] (by kernel_rfl) (by kernel_rfl) (by kernel_rfl) (by kernel_rfl) (Ord.ord_all [_, _, _, _, _, _, _, _, _, _] rfl (by kernel_rfl) ?_)
                go_wp2_with fail
                refine (HFR.out _ (below_drewN (Below.refl _ _) 1)).mono ?_
                rintro e w3 ⟨rfl, hs3, hm3⟩
                have hm3' : Mods wc.heap.size (Other W wc s fun g => K g ∨ K2 g) wc w3 := ((Mods.refl wc.heap.size (Other W wc s fun g => K g ∨ K2 g) wc).drew).trans hm3
                have HS3 := Lib.hid hs3
                have HV13 := Lib.hid (HV1.out.mods hm3' fun g hg hK => ⟨hg, fun ho => ho.2.1 (.inl hK)⟩)
                have HVL3 := Lib.hid (HVL.out.mods hm3' fun g hg hK => ⟨hg, fun ho => ho.2.1 (.inr hK)⟩)
                clear hs3 hm3 hm3' e0 e1 e2 e3 c1 hls HFR HS HV1 HVL
                go_wp2_with fail
                refine Ord.nx_end ?_
                go_upto_region 32 with fail
                obtain ⟨_, _, _, eU, _, _, hnc, hcm, _, _⟩ := HVL3.out.form (by omega)
                injection eU with eU _ eU2
                subst eU2
                have HHU := Lib.hid (vec_head HVL3.out k)
                obtain ⟨adU, hadU, htU⟩ := vec_tail HVL3.out (k + 1) (by omega)
                have HTU := Lib.hid htU
                have hwk : IntKind.i64.wrap ((k : Int) + 1) = (k : Int) + 1 := IntWalk.i64_in _ (by omega)
                obtain ⟨TU, hTU⟩ : ∃ T, cutS 4 (some ⟨gL, 0, none⟩) cL (k + 1) = T := ⟨_, rfl⟩
                have hcl := fun W => run_cutT_l (P := Tryd.prog) placeTy (some ⟨gL, 0, none⟩) lf.length cL .i64 ((k : Int) + 1) (k + 1) (by omega) (by omega) W
                have hch := fun W => run_cutT_h (P := Tryd.prog) placeTy (some ⟨gL, 0, none⟩) lf.length cL .i64 (k : Int) k rfl (by omega) W
                rw [hTU] at hcl hadU
                have HTA := Lib.hid hadU
                clear eU htU hTU hadU
                refine Ord.region_ordM [4] [7] [1, 2, 3, 5, 6, 7, 8, 0, 4, 9, 10] (by kernel_rfl) (by kernel_rfl) (by kernel_rfl) (by kernel_rfl) (Ord.ord_run [1, 2, 3, 5, 6] [_, _, _, _, _] rfl (by kernel_rfl) ?_)
                go_wp2_with fail
                refine Ord.nx_ord (Ord.ord_pure (.int .i64 ((k : Int) + 1)) rfl (by kernel_rfl) rfl (fun w' => by first | (go_simp; done) | (go_simp; exact hwk)) ?_)
                simp only [Act.put, List.setIfInBounds_toArray, List.set_cons_zero, List.set_cons_succ]
                refine Ord.ord_run [8, 0] [_, _] rfl (by kernel_rfl) ?_
                go_wp2_with fail
                have hbA : Below w3.heap.size w3 (w3.alloc (.cells #[] 36)).drew := (below_al' (w := w3) (.cells #[] 36)).drew
                have HBA := Lib.hid hbA
                have HN1 : Hid (∀ j u, ((lf.flatMap (pcCells 1)).take (k * 4))[j]? = some u → (w3.alloc (.cells #[] 36)).drew.cell? ((⟨gL, 0, none⟩ : Addr).add j) = some u) := Lib.hid fun j u hu => (hbA.cell (cell_lt (HHU.out j u hu))).trans (HHU.out j u hu)
                have HL1 : Hid (((lf.flatMap (pcCells 1)).take (k * 4)).length = k * 4) := Lib.hid (by rw [List.length_take, flat_len4]; omega)
                have HL2' : Hid (((lf.flatMap (pcCells 1)).drop ((k + 1) * 4)).length = (lf.length - (k + 1)) * 4) := Lib.hid (by rw [List.length_drop, flat_len4]; omega)
                have HO1 : Hid (∀ u ∈ lf.flatMap (pcCells 1), u.oneCell' = true) := Lib.hid (fun u hu => by
                  obtain ⟨y, _, hy⟩ := List.mem_flatMap.1 hu
                  exact pc_one 1 y u hy)
                have HB1 : Hid (0 + k ≤ maxLen) := Lib.hid (by unfold maxLen; omega)
                have HB2 : Hid (0 + k + (lf.length - (k + 1)) ≤ maxLen) := Lib.hid (by unfold maxLen; omega)
                clear hbA hcm
                refine Ord.nx_ord (Ord.ord_oneM rfl (by kernel_rfl) ?_)
                go_wp2_with
                  (refine wpList_append_vec rfl (.tmp 109) (.tmp 112) _ rfl 32 _ placeTy rfl (Vec.nil_ _ (fun _ => False) _ _ (some ⟨w3.heap.size, 0, none⟩)) ⟨gL, 0, none⟩ k cL ((lf.flatMap (pcCells 1)).take (k * 4)) rfl HL1.out HN1.out (fun u hu => HO1.out u (List.mem_of_mem_take hu)) HB1.out (by omega) ?_
                   intro W4 w4 row4 hv4 hg4 hr4
                   have HV4 := Lib.hid hv4
                   have HG4 := Lib.hid hg4
                   have HR4 := Lib.hid hr4
                   clear hv4 hg4 hr4)
                have hb4 := drop_first HG4.out HR4.out
                have HN2 : Hid (∀ j u, ((lf.flatMap (pcCells 1)).drop ((k + 1) * 4))[j]? = some u → w4.cell? (adU.add j) = some u) := Lib.hid fun j u hu => by
                  have h := HTU.out j u hu
                  have hlt := cell_lt h
                  have hb := HBA.out.trans (hb4.mono HBA.out.size)
                  exact (hb.cell hlt).trans h
                have HB4 := Lib.hid hb4
                clear hb4
                refine Ord.nx_and HB4.out (Ord.ord_all [_, _] rfl (by kernel_rfl) ?_)
                obtain ⟨A4, c4', rfl⟩ := HV4.out.shape
                clear hcl hch hwk
                go_wp2_with
                  (refine wpList_append_vec rfl (.tmp 113) (.tmp 117) _ rfl 32 _ placeTy rfl HV4.out adU (lf.length - (k + 1)) (cL - (k + 1)) ((lf.flatMap (pcCells 1)).drop ((k + 1) * 4)) (congrArg (fun A => Value.slice A (lf.length - (k + 1)) (cL - (k + 1))) HTA.out) HL2'.out HN2.out (fun u hu => HO1.out u (List.mem_of_mem_drop hu)) HB2.out (by omega) ?_
                   intro W5 w5 row5 hv5 hg5 hr5
                   obtain ⟨hb5, hv6⟩ := drop_vec (G := fun _ => False) HBA.out HG4.out HR4.out hv5 hg5 hr5
                   have hv7 : Vec w5 (Grow (fun _ => False) w3 w5) 36 4 W5 (lf.eraseIdx k).length ((lf.eraseIdx k).flatMap (pcCells 1)) := erase_vec hk hv6
                   have HV7 := Lib.hid hv7
                   have HB5 := Lib.hid hb5
                   clear hv5 hg5 hr5 hb5 hv6 hv7)
                refine Ord.nx_end ?_
                go_wp2_with fail
                have hel : (lf.eraseIdx k).length = lf.length - 1 := List.length_eraseIdx_of_lt hk
                go_roundg (gk - 1)
                case measure => have := HLF.out; omega
                case rel => exact ⟨i + 1, lf.eraseIdx k, Grow (fun _ => False) w3 w5, _, by have := HLF.out; omega, by have := HIT.out; have := HLF.out; omega, by go_num, (HS3.out.grow HB5.out).less fun g hg => hg.elim (fun h => .inl (.inl h)) (fun h => h.elim (fun h => h.elim) .inr), fun g hg h => h.elim (fun h => h) (fun h => by have := (HS3.out.kK g (.inl hg)).2; have := h.1; omega), HV13.out.below HB5.out, HV7.out⟩
            · have hltI : ¬ (0 : Int) < (lf.length : Int) := by omega
              obtain rfl : lf = [] := List.eq_nil_of_length_eq_zero (by omega)
              have HS9 := Lib.hid (HS.out.less (K' := K) fun g hg => .inl hg)
              clear HS HVL HLF HIT HD
              go_upto_region 34 with fail
              go_loopg [18] m (fun k iv wx => AgD W s a h n m l K (.slice AS m cS) k iv wx)
              case atStart => exact ⟨0, bytes, by omega, rfl, HS9.out, HV1.out⟩
              case round =>
                obtain ⟨i, bytes, hi, rfl, hs, hv⟩ := hrel
                have HS := Lib.hid hs
                have HV := Lib.hid hv
                have HGI := Lib.hid hi
                clear hs hv hi HS9
                by_cases hlt : i < m
                · have hiI : (i : Int) < (m : Int) := by omega
                  obtain ⟨b, hbo⟩ : ∃ b, l[i]? = some b := ⟨_, List.getElem?_eq_getElem (by rw [HL.out]; exact hlt)⟩
                  obtain ⟨ad, B, c, hA, hcell, hbat⟩ := HO.out i b hbo
                  subst hA
                  have x0 := (HS.out.hb.cell (cell_lt hcell)).trans hcell
                  have hbl := HML.out b (List.mem_of_getElem? hbo)
                  have hgd : l.getD i [] = b := by rw [List.getD_eq_getElem?_getD, hbo]; rfl
                  have HUL := Lib.hid (usedT_len (n / 16) l i)
                  have HAP := Lib.hid (fun w (hb : Below wr.heap.size wr w) => (HS.out.grow hb).append (by omega) (by have := HUL.out; omega) B b.length c b (hbat.below (HS.out.hb.trans (hb.mono HS.out.hb.size))) rfl (by omega))
                  obtain ⟨qq, hqq⟩ : ∃ qq, stepA (n / 16) (usedT (n / 16) l i) b = qq := ⟨_, rfl⟩
                  rw [hqq] at HAP
                  have HNX := Lib.hid (show usedT (n / 16) l (i + 1) = usedT (n / 16) l i ++ qq.toList by show _ ++ _ = _; rw [hgd, hqq])
                  have HPL := Lib.hid (show placeA (n / 16) l i = plcOf qq by unfold placeA; rw [hgd, hqq])
                  have HQ := Lib.hid hqq
                  have c1 := HS.out.c1
                  have hls := HS.out.sl
                  clear hcell hbat hqq hgd
                  go_upto_region 36 with fail
                  go_cut [19, 20] from 125 to 136 (fun xv ev wc => ∃ gX bytes', xv = .pointer (some ⟨gX, 0, none⟩) ∧ ev = .int .i64 (codeA b qq) ∧ Blk wc gX 36 (plcOf qq).cells.toArray ∧ AgS W wc s a h n (17 * m + 17 * i + 17) (fun g => K g ∨ g = gX) (usedT (n / 16) l i ++ qq.toList) bytes' ∧ Mods wr.heap.size (Other W wr s K) wr wc ∧ wr.heap.size ≤ gX)
                  case first =>
                    refine Ord.tb_start [] (by kernel_rfl) (Ord.tb_pre [0, 1, 2, 3, 4, 5, 6, 7] [_, _, _, _, _, _, _, _] (k := 7) (by kernel_rfl) rfl rfl (by kernel_rfl) ?_)
                    go_wp2_with fail
                    refine Ord.nx_tb (Ord.tb_fork_free (i := 8) (j := 12) (k := 6) (by kernel_rfl) rfl rfl (by kernel_rfl) ?_ ?_)
                    · go_wp2_with fail
                      refine (HAP.out _ (below_drewN (Below.refl _ _) 1)).mono ?_
                      rintro e w3 ⟨rfl, ⟨bytes', hs3⟩, hm3⟩
                      have HS3 := Lib.hid (hs3.less (K' := K) fun g hg => .inl hg)
                      have HM3 := Lib.hid (show Mods wr.heap.size (Other W wr s K) wr w3 from ((Mods.refl wr.heap.size (Other W wr s K) wr).drew).trans (hm3.mono (Nat.le_refl _) fun g _ hg => ⟨hg.1, fun hk => hg.2.1 (.inl hk), hg.2.2⟩))
                      have HN := Lib.hid (Blk.new w3 36 #[.int .i64 0, .int .i64 0, .int .i64 0, .bool false])
                      clear hs3 hm3
                      go_wp2_with fail
                      refine Ord.nx_tb (Ord.tb_ords [9, 10, 11, 12, 13, 14] (by kernel_rfl) rfl (by kernel_rfl) (Ord.ord_all [_, _, _, _, _, _] rfl (by kernel_rfl) ?_))
                      go_wp2_with
                        (refine wpList_store_all rfl 36 (.tmp 19) (.tmp 135) rfl w3.heap.size 36 [.int .i64 0, .int .i64 0, .int .i64 0, .bool false] (plcOf qq).cells rfl rfl (HN.out) rfl (by kernel_rfl) (plc_cells_one _) ?_
                         intro w6 hb6 hg6 hz6
                         have HB6 := Lib.hid hb6
                         have HG6 := Lib.hid hg6
                         clear hb6 hg6 hz6)
                      refine Ord.nx_end ?_
                      go_wp2_with fail
                      go_meet
                      exact ⟨w3.heap.size, bytes', rfl, rfl, HB6.out, ((HS3.out.grow (below_al' (w := w3) _)).write HG6.out (.inr ⟨Nat.le_refl _, by simp⟩)).less fun g hg => hg.elim .inl fun e => .inr ⟨by rw [e]; exact Nat.le_refl _, by rw [e]; simp⟩, HM3.out.then_below (fit_row (below_al' (w := w3) _) HG6.out (Nat.le_refl _) (by simp)) HM3.out.size, HM3.out.size⟩
                    · go_wp2_with fail
                      refine Ord.nx_tb2 (below_al' _) (Ord.tb_ords [8, 9, 10, 11, 13, 14] (by kernel_rfl) rfl (by kernel_rfl) (Ord.ord_all [_, _, _, _, _, _] rfl (by kernel_rfl) ?_))
                      go_wp2_with fail
                      have hbA : Below wr.heap.size wr (wr.drew.alloc (.cells #[.int .i64 0, .int .i64 0, .int .i64 0, .bool false] 36)) := (below_drewN (Below.refl _ _) 1).trans (show Below wr.heap.size wr.drew _ from below_al' (w := wr.drew) _)
                      have HBA := Lib.hid hbA
                      refine (HAP.out _ hbA).mono ?_
                      rintro e w3 ⟨rfl, ⟨bytes', hs3⟩, hm3⟩
                      have hlA : wr.heap.size < (wr.drew.alloc (.cells #[.int .i64 0, .int .i64 0, .int .i64 0, .bool false] 36)).heap.size := by show wr.heap.size < (wr.alloc (.cells #[.int .i64 0, .int .i64 0, .int .i64 0, .bool false] 36)).heap.size; simp
                      have HS3 := Lib.hid hs3
                      have HN := Lib.hid ((Blk.new wr.drew 36 #[.int .i64 0, .int .i64 0, .int .i64 0, .bool false]).mods hm3 hlA fun ho => ho.2.1 (.inr ⟨Nat.le_refl _, hlA⟩))
                      have HM3 := Lib.hid (show Mods wr.heap.size (Other W wr s K) wr w3 from (Mods.of_below HBA.out).trans (hm3.mono HBA.out.size fun g _ hg => ⟨hg.1, fun hk => hg.2.1 (.inl hk), hg.2.2⟩))
                      clear hs3 hm3
                      go_wp2_with
                        (refine wpList_store_all rfl 36 (.tmp 19) (.tmp 135) rfl wr.heap.size 36 [.int .i64 0, .int .i64 0, .int .i64 0, .bool false] (plcOf qq).cells rfl rfl (HN.out) rfl (by kernel_rfl) (plc_cells_one _) ?_
                         intro w6 hb6 hg6 hz6
                         have HB6 := Lib.hid hb6
                         have HG6 := Lib.hid hg6
                         clear hb6 hg6 hz6)
                      refine Ord.nx_end ?_
                      go_wp2_with fail
                      go_meet
                      exact ⟨wr.heap.size, bytes', rfl, rfl, HB6.out, (HS3.out.write HG6.out (.inr ⟨Nat.le_refl _, hlA⟩)).less fun g hg => hg.elim .inl fun e => .inr ⟨by rw [e]; exact Nat.le_refl _, by rw [e]; exact hlA⟩, HM3.out.then_below (fit_row (Below.refl wr.heap.size w3 |>.mono (Nat.le_refl _)) HG6.out (Nat.le_refl _) HM3.out.size) (Nat.le_refl _), Nat.le_refl _⟩
                  case rest =>
                    obtain ⟨gX, bytes', rfl, rfl, hk, hs, hm, hge⟩ := hcut
                    have HK := Lib.hid hk
                    have HSC := Lib.hid (hs.less (K' := K) fun g hg => .inl hg)
                    have HVC := Lib.hid (HV.out.mods hm fun g hg hK => ⟨hg, fun ho => ho.2.1 hK⟩)
                    have hltX := hk.lt
                    clear hk hs hm x0 c1 hls HAP HS HV
                    have hpj := firstT_get (nseg := n / 16) (l := l) hlt
                    rw [HPL.out] at hpj
                    obtain ⟨gS, hAS, y0⟩ := HVC.out.cell (i * 4) _ (by rw [show i * 4 = i * 4 + 0 from rfl, plc_get hpj (by omega)]; rfl)
                    subst hAS
                    have y1 := HVC.out.at_ (k := i * 4 + 1) (by rw [plc_get hpj (by omega)]; rfl)
                    have y2 := HVC.out.at_ (k := i * 4 + 2) (by rw [plc_get hpj (by omega)]; rfl)
                    have y3 := HVC.out.at_ (k := i * 4 + 3) (by rw [plc_get hpj (by omega)]; rfl)
                    have k0 := (HK.out.cell 0).trans (show _ = some (.int .i64 (plcOf qq).dev) from rfl)
                    have k1 := (HK.out.cell 1).trans (show _ = some (.int .i64 (plcOf qq).at_) from rfl)
                    have k2 := (HK.out.cell 2).trans (show _ = some (.int .i64 (plcOf qq).len) from rfl)
                    have k3 := (HK.out.cell 3).trans (show _ = some (.bool (plcOf qq).bad) from rfl)
                    have hneq := fun W => (show _ = Result.ok (Value.bool false) W from (neq_pc (plcOf qq).dev (plcOf qq).at_ (plcOf qq).len (plcOf qq).bad (plcOf qq).dev (plcOf qq).at_ (plcOf qq).len (plcOf qq).bad W).trans (by simp [pcEq]))
                    have hgn := fun W x y xs ys => guard_pc .neq x y xs ys W
                    have hcl : (codeA b qq = 0 ∧ (0 : Int) < (plcOf qq).len) ∨ (¬ codeA b qq = 0 ∧ ¬ (0 : Int) < (plcOf qq).len) := by
                      cases qq with
                      | none => right; simp only [codeA, plcOf]; split <;> simp
                      | some u =>
                        left
                        have := (stepA_cost HQ.out).1
                        unfold costM at this
                        refine ⟨rfl, ?_⟩
                        show (0 : Int) < (u.2 : Int)
                        omega
                    clear hpj
                    have hrel : AgS W wc s a h n (17 * m + 17 * (i + 1)) K (usedT (n / 16) l (i + 1)) bytes' := by
                      rw [HNX.out, show 17 * m + 17 * (i + 1) = 17 * m + 17 * i + 17 by omega]
                      exact HSC.out
                    have HRL := Lib.hid hrel
                    clear hrel
                    generalize hcd : codeA b qq = cd at *
                    generalize plcOf qq = pp at *
                    clear hcd
                    obtain ⟨pd, pa, pl, pb⟩ := pp
                    dsimp only at y0 y1 y2 y3 k0 k1 k2 k3 hneq hcl
                    have hrow : m ≤ 10000000 := hm
                    rcases hcl with ⟨rfl, hpos⟩ | ⟨hne, hnp⟩
                    · clear HPL HK
                      go_wp2_with fail
                      refine Ord.region_ordM [] [8, 14] [0, 1, 2, 3, 4, 5, 6, 7, 9, 10, 11, 12, 13, 8, 14, 15, 16] (by kernel_rfl) (by kernel_rfl) (by kernel_rfl) (by kernel_rfl) (Ord.ord_run [0, 1, 2, 3, 4, 5, 6, 7, 9, 10, 11, 12, 13] [_, _, _, _, _, _, _, _, _, _, _, _, _] rfl (by kernel_rfl) ?_)
                      go_wp2_with fail
                      refine Ord.nx_ord (Ord.ord_pure (.bool true) rfl (by kernel_rfl) rfl (fun w' => by first | (go_simp; done) | (go_simp; simp_all)) ?_)
                      simp only [Act.put, List.setIfInBounds_toArray, List.set_cons_zero, List.set_cons_succ]
                      refine Ord.ord_pure (.bool true) rfl (by kernel_rfl) rfl (fun w' => by first | (go_simp; done) | (go_simp; simp_all)) ?_
                      simp only [Act.put, List.setIfInBounds_toArray, List.set_cons_zero, List.set_cons_succ]
                      refine Ord.ord_all [_, _] rfl (by kernel_rfl) ?_
                      go_wp2_with fail
                      refine Ord.nx_end ?_
                      clear y0 y1 y2 y3 k0 k1 k2 k3 hneq hgn
                      go_wp2_with fail
                      go_roundg (gk - 1)
                      case measure => have := HGI.out; omega
                      case rel => exact ⟨i + 1, bytes', by have := HGI.out; omega, by go_num, (HRL.out.grow (below_drewN (Below.refl _ _) 1)).less fun g hg => .inl hg, HVC.out.below (below_drewN (Below.refl _ _) 1)⟩
                    · have hneb : (cd == 0) = false := beq_eq_false_iff_ne.2 hne
                      clear HPL HK
                      go_wp2_with fail
                      refine Ord.region_ordM [] [8, 14] [0, 1, 2, 3, 4, 5, 6, 7, 9, 10, 11, 12, 13, 8, 14, 15, 16] (by kernel_rfl) (by kernel_rfl) (by kernel_rfl) (by kernel_rfl) (Ord.ord_run [0, 1, 2, 3, 4, 5, 6, 7, 9, 10, 11, 12, 13] [_, _, _, _, _, _, _, _, _, _, _, _, _] rfl (by kernel_rfl) ?_)
                      go_wp2_with fail
                      refine Ord.nx_ord (Ord.ord_pure (.bool false) rfl (by kernel_rfl) rfl (fun w' => by first | (go_simp; done) | (go_simp; simp_all)) ?_)
                      simp only [Act.put, List.setIfInBounds_toArray, List.set_cons_zero, List.set_cons_succ]
                      refine Ord.ord_pure (.bool false) rfl (by kernel_rfl) rfl (fun w' => by first | (go_simp; done) | (go_simp; simp_all)) ?_
                      simp only [Act.put, List.setIfInBounds_toArray, List.set_cons_zero, List.set_cons_succ]
                      refine Ord.ord_all [_, _] rfl (by kernel_rfl) ?_
                      go_wp2_with fail
                      refine Ord.nx_end ?_
                      clear y0 y1 y2 y3 k0 k1 k2 k3 hneq hgn
                      go_wp2_with fail
                      go_roundg (gk - 1)
                      case measure => have := HGI.out; omega
                      case rel => exact ⟨i + 1, bytes', by have := HGI.out; omega, by go_num, (HRL.out.grow (below_drewN (Below.refl _ _) 1)).less fun g hg => .inl hg, HVC.out.below (below_drewN (Below.refl _ _) 1)⟩
                · obtain rfl : m = i := by have := HGI.out; omega
                  have hiI : ¬ ((m : Nat) : Int) < (m : Int) := by omega
                  go_wp2_with fail
                  go_ret
                  exact ⟨rfl, HS.out.hb⟩
end Go.Proofs.YtgcckfaljfkkhaaDoor.Hot
