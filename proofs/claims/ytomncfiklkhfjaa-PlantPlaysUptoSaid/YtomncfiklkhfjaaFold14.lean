/- The reference's disks, has, Len, On. -/
import Derived.Test.YtomncfiklkhfjaaRefNew
import Derived.Deep.QuietTactic
import Derived.BigQuiet
namespace Go.Proofs.Ytomncfiklkhfjaa.Ref
open Go Go.RowKit Mem Pl
variable {S : Nat → Prop}
section
variable {w w' : World} {F : Nat → Prop} {V : Value} {l : List (List UInt8)} {hs : List (List (List UInt8))} {ws : List Wr} {r : Nat} {p : PM} {left : Int} {D T W : Value}
theorem RefB.c0 (h : RefB S w F r p left D T V W) : w.cell? ⟨r, 0, none⟩ = some D := (h.blk.cell 0).trans rfl
theorem RefB.c1 (h : RefB S w F r p left D T V W) : w.cell? ⟨r, 1, none⟩ = some T := (h.blk.cell 1).trans rfl
theorem RefB.c2 (h : RefB S w F r p left D T V W) : w.cell? ⟨r, 2, none⟩ = some V := (h.blk.cell 2).trans rfl
theorem RefB.c3 (h : RefB S w F r p left D T V W) : w.cell? ⟨r, 3, none⟩ = some W := (h.blk.cell 3).trans rfl
theorem RefB.c4 (h : RefB S w F r p left D T V W) : w.cell? ⟨r, 4, none⟩ = some (.bool p.off) := (h.blk.cell 4).trans rfl
theorem RefB.c5 (h : RefB S w F r p left D T V W) : w.cell? ⟨r, 5, none⟩ = some (.bool p.fuse.isSome) := (h.blk.cell 5).trans rfl
theorem RefB.c6 (h : RefB S w F r p left D T V W) : w.cell? ⟨r, 6, none⟩ = some (.int .i64 left) := (h.blk.cell 6).trans rfl
theorem RefB.c7 (h : RefB S w F r p left D T V W) : w.cell? ⟨r, 7, none⟩ = some (.int .i64 (p.steps : Int)) := (h.blk.cell 7).trans rfl
theorem RefB.c8 (h : RefB S w F r p left D T V W) : w.cell? ⟨r, 8, none⟩ = some (.int .i64 (p.now : Int)) := (h.blk.cell 8).trans rfl
theorem RefB.fz (h : RefB S w F r p left D T V W) (k : Nat) : w.frozen? ⟨r, k, none⟩ = false := h.blk.frozen k
theorem RefB.below (h : RefB S w F r p left D T V W) (hb : Below w.heap.size w w') : RefB S w' F r p left D T V W :=
  have hm : Mods w.heap.size (fun _ => False) w w' := Mods.of_below hb
  have hk := (RMods.of_below (F := fun _ => False) hb).bytes
  ⟨h.blk.below_ hb, h.own, h.hleft, h.lrange, h.disks.heap hk.i, h.tapes.heap hk.i, h.has.mods hm (fun g hg _ => ⟨hg, fun x => x⟩) hk, h.waits.mods hm (fun g hg _ => ⟨hg, fun x => x⟩) hk⟩
theorem HasAt.shape (h : HasAt S w F V hs) : ∃ A c, V = .slice A hs.length c := by obtain ⟨rows, h1, _⟩ := h; exact h1.shape
theorem RowAt.shape (h : RowAt S w F V l) : ∃ A c, V = .slice A l.length c := by obtain ⟨rows, h1, _⟩ := h; exact h1.shape
theorem RWaitsAt.shape (h : RWaitsAt S w F V ws) : ∃ A c, V = .slice A ws.length c := by obtain ⟨rows, h1, _⟩ := h; exact h1.shape
theorem HasAt.row {A : Option Addr} {n c : Nat} (h : HasAt S w F (.slice A n c) hs) {i : Nat} (hl : hs[i]? = some l) : ∃ g A' c', A = some ⟨g, 0, none⟩ ∧ n = hs.length ∧ w.cell? ⟨g, i, none⟩ = some (.slice A' l.length c') ∧ RowAt S w F (.slice A' l.length c') l := by
  obtain ⟨rows, h1, h2, _⟩ := h
  obtain ⟨A0, c0, e⟩ := h1.shape
  injection e with e1 e2 e3
  subst e1 e2 e3
  obtain ⟨v, h3, h4⟩ := h2 i l hl
  obtain ⟨A', c', rfl⟩ := h4.shape
  obtain ⟨g, hA, hc⟩ := h1.cell i _ h3
  exact ⟨g, A', c', hA, rfl, hc, h4⟩
theorem RowAt.sec {A : Option Addr} {n c : Nat} (h : RowAt S w F (.slice A n c) l) {k : Nat} {b : List UInt8} (hb : l[k]? = some b) : ∃ g v, A = some ⟨g, 0, none⟩ ∧ n = l.length ∧ w.cell? ⟨g, k, none⟩ = some v ∧ SecOk S w b v := by
  obtain ⟨vs, h1, h2⟩ := h
  obtain ⟨A0, c0, e⟩ := h1.shape
  injection e with e1 e2 e3
  subst e1 e2 e3
  obtain ⟨v, h3, h4⟩ := h2 k b hb
  obtain ⟨g, hA, hc⟩ := h1.cell k _ h3
  exact ⟨g, v, hA, rfl, hc, h4⟩
theorem RWaitsAt.row {A : Option Addr} {n c : Nat} (h : RWaitsAt S w F (.slice A n c) ws) {k : Nat} {x : Wr} (hx : ws[k]? = some x) :
    ∃ g v, A = some ⟨g, 0, none⟩ ∧ n = ws.length ∧ w.cell? ⟨g, k * 3, none⟩ = some (natV x.dev) ∧ w.cell? ⟨g, k * 3 + 1, none⟩ = some (natV x.place) ∧ w.cell? ⟨g, k * 3 + 2, none⟩ = some v ∧ SecOk S w x.b v ∧ w.rangeAt g (k * 3) [natV x.dev, natV x.place, v] := by
  obtain ⟨rows, h1, h2, h3⟩ := h
  obtain ⟨A0, c0, e⟩ := h1.shape
  injection e with e1 e2 e3
  subst e1 e2 e3
  obtain ⟨v, h4, h5⟩ := h3 k x hx
  have hall : ∀ q ∈ rows, q.length = 3 := fun q hq => by
    obtain ⟨i, hi, rfl⟩ := List.getElem_of_mem hq
    obtain ⟨v', h6, _⟩ := h3 i ws[i] (List.getElem?_eq_getElem (by omega))
    rw [List.getElem?_eq_getElem hi] at h6
    injection h6 with h6
    rw [h6]
    rfl
  have hf := fun j (hj : j < 3) => flat_get (size := 3) rows hall k j _ h4 hj
  obtain ⟨g, hA, hc0⟩ := h1.cell (k * 3) (natV x.dev) (hf 0 (by omega))
  subst hA
  have hc1 := h1.at_ (k := k * 3 + 1) (u := natV x.place) (hf 1 (by omega))
  have hc2 := h1.at_ (k := k * 3 + 2) (u := v) (hf 2 (by omega))
  refine ⟨g, v, rfl, rfl, hc0, hc1, hc2, h5, fun j u hj => ?_⟩
  match j, hj with
  | 0, hj => injection hj with hj; subst hj; exact hc0
  | 1, hj => injection hj with hj; subst hj; exact hc1
  | 2, hj => injection hj with hj; subst hj; exact hc2
  | _ + 3, hj => simp at hj
theorem SecOk.slice {b : List UInt8} {v : Value} (h : SecOk S w b v) : ∃ A c, v = .slice A 64 c ∧ BAt w A b ∧ b.length = 64 := by
  obtain ⟨g, c, cs, rfl, h2, h3, h4⟩ := h
  refine ⟨_, c, rfl, fun h0 => ⟨_, rfl, fun k hk => ?_⟩, h4.1⟩
  have e : (Addr.add ⟨g, 0, none⟩ k) = ⟨g, k, none⟩ := by
    unfold Addr.add
    split
    · rename_i h; subst h; rfl
    · simp
  have hcell : w.cell? ⟨g, k, none⟩ = cs[k]? := Blk.cell (w := w) (g := g) (t := 5) (cs := cs) h2 k
  rw [e, hcell]
  have h5 : (cs.toList.take 64)[k]? = (b.map B8)[k]? := by rw [h3]
  rw [List.getElem?_take, if_pos (by omega), Array.getElem?_toList] at h5
  rw [h5, List.getElem?_map, List.getElem?_eq_getElem hk]
  simp [List.getD_eq_getElem?_getD, hk, B8]
end
set_option maxHeartbeats 2000000 in
theorem disks_any {w : World} {F : Nat → Prop} {r : Nat} {p : PM} {left : Int} {D T V W : Value} (h : RefB S w F r p left D T V W) :
    Calls Try.prog 75 #[.pointer (some ⟨r, 0, none⟩)] w fun e w' => e = .returned (.int .i64 (p.disks.length : Int)) ∧ w = w' := by
  have h0 := h.c0
  obtain ⟨A, c, rfl⟩ := h.disks.shape
  clear h
  go_enter Try.func75, Try.ntmps75
  go_wp2
  go_ret
  exact ⟨rfl, rfl⟩
set_option maxHeartbeats 2000000 in
theorem has_any {w : World} {F : Nat → Prop} {r : Nat} {p : PM} {left : Int} {D T V W : Value} (h : RefB S w F r p left D T V W) (hok : p.Ok) (i : Int) :
    Calls Try.prog 78 #[.pointer (some ⟨r, 0, none⟩), .int .i64 i] w fun e w' => e = .returned (.bool (p.num i).isSome) ∧ ∃ k, w' = w.drewN k := by
  have h0 := h.c0
  have h1 := h.c1
  obtain ⟨A, c, rfl⟩ := h.disks.shape
  obtain ⟨A1, c1, rfl⟩ := h.tapes.shape
  have hs := hok.shape
  have hn := hok.n12
  have hwr : IntKind.i64.wrap ((p.disks.length : Int) + (p.tapes.length : Int)) = (p.disks.length : Int) + (p.tapes.length : Int) := IntWalk.i64_in _ (by omega)
  clear h hok
  by_cases h2 : 0 ≤ i
  · by_cases h3 : i < (p.disks.length : Int) + (p.tapes.length : Int)
    · have e : (p.num i).isSome = true := by unfold PM.num; rw [if_pos (by omega)]; rfl
      rw [e]
      clear e
      go_enter Try.func78, Try.ntmps78
      go_wp2
      go_quiet (fail)
      go_wp2
      go_ret
      exact ⟨rfl, _, rfl⟩
    · have e : (p.num i).isSome = false := by unfold PM.num; rw [if_neg (by omega)]; rfl
      rw [e]
      clear e
      have hb : decide (i < (p.disks.length : Int) + (p.tapes.length : Int)) = false := decide_eq_false h3
      go_enter Try.func78, Try.ntmps78
      go_wp2
      go_quiet (fail)
      go_wp2
      go_ret
      exact ⟨by simp [h3], _, rfl⟩
  · have e : (p.num i).isSome = false := by unfold PM.num; rw [if_neg (by omega)]; rfl
    rw [e]
    clear e
    have hb : decide (0 ≤ i) = false := decide_eq_false h2
    go_enter Try.func78, Try.ntmps78
    go_wp2
    go_quiet (fail)
    go_wp2
    go_ret
    exact ⟨rfl, _, rfl⟩
end Go.Proofs.Ytomncfiklkhfjaa.Ref
/- The reference's Len. -/
namespace Go.Proofs.Ytomncfiklkhfjaa.Ref
open Go Go.RowKit Mem Pl
variable {S : Nat → Prop}
theorem devs_has {p : PM} {j : Nat} {d : Dev} (hd : p.devs[j]? = some d) : (p.devs.map (·.has))[j]? = some d.has := by rw [List.getElem?_map, hd]; rfl
theorem len_eq {p : PM} (hok : p.Ok) {j : Nat} {d : Dev} (hd : p.devs[j]? = some d) (hn : p.num j = some j) : p.len j = (((d.has.length + (if d.tape then cnt p.waits j else 0) : Nat) : Int), 0) := by
  unfold PM.len
  rw [hn]
  simp only [hd]
  unfold Dev.size
  cases ht : d.tape with
  | true => rfl
  | false => simp [hok.disk j d hd ht]
theorem cnt_take {ws : List Wr} {k : Nat} {x : Wr} (hx : ws[k]? = some x) (j : Nat) : cnt (ws.take (k + 1)) j = cnt (ws.take k) j + if x.dev = j then 1 else 0 := by
  obtain ⟨hk, e⟩ := List.getElem?_eq_some_iff.1 hx
  rw [List.take_succ_eq_append_getElem hk, cnt_snoc, e]
theorem cnt_le (ws : List Wr) (k j : Nat) : cnt (ws.take k) j ≤ ws.length := by
  unfold cnt
  exact Nat.le_trans List.countP_le_length (by rw [List.length_take]; omega)
def LenR (w : World) (ws : List Wr) (f : Nat → Nat) (nv kv : Value) (wr : World) : Prop :=
  ∃ (k q : Nat), k ≤ ws.length ∧ kv = .int .i64 (k : Int) ∧ nv = .int .i64 (f k : Int) ∧ wr = w.drewN q
/-- The length so far. -/
theorem len_fun (p : PM) (d : Dev) (j : Nat) (hl : d.has.length ≤ 4096) (hw : p.waits.length ≤ 1000000000) : ∃ f : Nat → Nat, f 0 = d.has.length ∧ (∀ k x, p.waits[k]? = some x → f (k + 1) = if x.dev = j ∧ d.tape = true then f k + 1 else f k) ∧ (∀ k, f k ≤ 2000000000) ∧ f p.waits.length = d.has.length + (if d.tape then cnt p.waits j else 0) := by
  refine ⟨fun k => d.has.length + (if d.tape then cnt (p.waits.take k) j else 0), by simp [cnt], fun k x hx => ?_, fun k => ?_, by simp⟩
  · simp only
    rw [cnt_take hx]
    cases d.tape with
    | true =>
      by_cases hc : x.dev = j
      · simp [hc]; omega
      · simp [hc]
    | false => simp
  · have := cnt_le p.waits k j
    simp only
    split <;> omega
set_option maxRecDepth 100000 in
set_option maxHeartbeats 4000000 in
theorem len_any {w : World} {F : Nat → Prop} {r : Nat} {p : PM} {left : Int} {D T V W : Value} (h : RefB S w F r p left D T V W) (hok : p.Ok) (hlow : p.waits.length ≤ 1000000000) (i : Int) :
    Calls Try.prog 77 #[.pointer (some ⟨r, 0, none⟩), .int .i64 i] w fun e w' => e = .returned (.tuple #[.int .i64 (p.len i).1, .int .i64 (p.len i).2]) ∧ ∃ k, w' = w.drewN k := by
  have HB := Lib.hid h
  have HH := Lib.hid (has_any h hok i)
  rcases num_cases p i with ⟨hn, hi⟩ | ⟨j, d, rfl, hn, hj, hd⟩
  · have e : p.len i = (0, 31) := by unfold PM.len; rw [hn]
    rw [e]
    rw [hn] at HH
    clear h e hn
    go_enter Try.func77, Try.ntmps77
    go_wp2_with fail
    refine HH.out.mono ?_
    rintro e _ ⟨rfl, q, rfl⟩
    go_wp2_with fail
    go_ret2
    exact ⟨rfl, _, rfl⟩
  · rw [len_eq hok hd hn]
    rw [hn] at HH
    have HL := Lib.hid (hok.room j d hd)
    have hmost := (hok.most j d hd).2.2
    have hlen : d.has.length ≤ 4096 := by
      cases ht : d.tape with
      | true => have := HL.out ht; omega
      | false => have := hok.disk j d hd ht; omega
    have HTP := Lib.hid (hok.tape j d hd)
    obtain ⟨f, f0, fs, fb, fn⟩ := len_fun p d j hlen hlow
    rw [← fn]
    have HFS := Lib.hid fs
    have HF0 := Lib.hid f0
    obtain ⟨AV, cV, rfl⟩ := h.has.shape
    obtain ⟨AW, cW, rfl⟩ := h.waits.shape
    have h2 := h.c2
    have h3 := h.c3
    obtain ⟨g, A', c', hA, _, hcell, _⟩ := h.has.row (devs_has hd)
    subst hA
    have hj12 : j < 12 := by have := hok.n12; omega
    have hml : (p.devs.map (·.has)).length = p.devs.length := by simp
    rw [hml] at h2
    have hjI : (j : Int) < (p.devs.length : Int) := by omega
    clear h hn hml HL hmost fs f0 fn hlen
    go_enter Try.func77, Try.ntmps77
    go_wp2_with fail
    refine HH.out.mono ?_
    rintro e _ ⟨rfl, q0, rfl⟩
    go_wp2_with fail
    go_loopw [6, 7] (fun nv kv wr => LenR w p.waits f nv kv wr) (fun _ kv _ => p.waits.length - (intOf kv).toNat)
    case atStart => exact ⟨0, _, Nat.zero_le _, rfl, by rw [HF0.out], rfl⟩
    case round =>
      obtain ⟨k, q, hk, rfl, rfl, rfl⟩ := hrel
      have hfk := fb k
      by_cases hlt : k < p.waits.length
      · obtain ⟨x, hx⟩ : ∃ x, p.waits[k]? = some x := ⟨_, List.getElem?_eq_getElem hlt⟩
        obtain ⟨gw, v, hA, _, e0, _, _, _, _⟩ := HB.out.waits.row hx
        subst hA
        have e0' : w.cell? ⟨gw, k * 3, none⟩ = some (.int .i64 (x.dev : Int)) := e0
        have HT := Lib.hid (HFS.out k x hx)
        have HDK := Lib.hid (disks_any (HB.out.below (below_drewN (Below.refl _ w) q)))
        clear e0 hx
        have hkI : (k : Int) < (p.waits.length : Int) := by omega
        by_cases hc : x.dev = j
        · have d0 : ((x.dev : Int) == (j : Int)) = true := by simp; omega
          have HC := Lib.hid hc
          clear hc
          by_cases hdj : p.disks.length ≤ j
          · have HTT : Hid (d.tape = true) := Lib.hid (by rw [HTP.out]; exact decide_eq_true hdj)
            have hge : (p.disks.length : Int) ≤ (j : Int) := by omega
            go_wp2_with fail
            refine HDK.out.mono ?_
            rintro e _ ⟨rfl, rfl⟩
            go_wp2_with fail
            go_roundw
            case rel => exact ⟨k + 1, _, hlt, by simp, by rw [HT.out, if_pos ⟨HC.out, HTT.out⟩]; simp, rfl⟩
            case measure => simp [intOf]; omega
          · have HTT : Hid (¬ d.tape = true) := Lib.hid (by rw [HTP.out]; simpa using hdj)
            have hge : ¬ (p.disks.length : Int) ≤ (j : Int) := by omega
            have hgb : decide ((p.disks.length : Int) ≤ (j : Int)) = false := decide_eq_false hge
            go_wp2_with fail
            refine HDK.out.mono ?_
            rintro e _ ⟨rfl, rfl⟩
            go_wp2_with fail
            go_roundw
            case rel => exact ⟨k + 1, _, hlt, by simp, by rw [HT.out, if_neg (fun h => HTT.out h.2)], rfl⟩
            case measure => simp [intOf]; omega
        · have d0 : ((x.dev : Int) == (j : Int)) = false := by simp; omega
          have HC := Lib.hid hc
          clear hc
          go_wp2_with fail
          go_roundw
          case rel => exact ⟨k + 1, _, hlt, by simp, by rw [HT.out, if_neg (fun h => HC.out h.1)], rfl⟩
          case measure => simp [intOf]; omega
      · obtain rfl : k = p.waits.length := by omega
        go_wp2_with fail
        go_ret2
        exact ⟨rfl, _, rfl⟩
end Go.Proofs.Ytomncfiklkhfjaa.Ref
