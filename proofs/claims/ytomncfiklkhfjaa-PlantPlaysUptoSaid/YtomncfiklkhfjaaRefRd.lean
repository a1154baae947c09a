/- The reference's Read. -/
import Derived.Test.YtomncfiklkhfjaaFold14
namespace Go.Proofs.Ytomncfiklkhfjaa.Ref
open Go Go.RowKit Mem Pl
variable {S : Nat → Prop}
/-- The last write at a place, or what was there. -/
def lastO (ws : List Wr) (i k : Nat) (o : Option (List UInt8)) : Option (List UInt8) := ws.foldl (fun o x => if x.dev = i ∧ x.place = k then some x.b else o) o
theorem lastO_some (i k : Nat) : ∀ (ws : List Wr) (b : List UInt8), lastO ws i k (some b) = some (lastW ws i k b)
  | [], b => rfl
  | x :: ws, b => by
    have h1 : lastO (x :: ws) i k (some b) = lastO ws i k (if x.dev = i ∧ x.place = k then some x.b else some b) := rfl
    have h2 : lastW (x :: ws) i k b = lastW ws i k (if x.dev = i ∧ x.place = k then x.b else b) := rfl
    rw [h1, h2]
    by_cases h : x.dev = i ∧ x.place = k
    · rw [if_pos h, if_pos h, lastO_some i k ws]
    · rw [if_neg h, if_neg h, lastO_some i k ws]
theorem lastO_none (i k : Nat) (b : List UInt8) : ∀ (ws : List Wr), (∃ x ∈ ws, x.dev = i ∧ x.place = k) → lastO ws i k none = some (lastW ws i k b)
  | [], h => by obtain ⟨x, hx, _⟩ := h; cases hx
  | x :: ws, h => by
    have h1 : lastO (x :: ws) i k none = lastO ws i k (if x.dev = i ∧ x.place = k then some x.b else none) := rfl
    have h2 : lastW (x :: ws) i k b = lastW ws i k (if x.dev = i ∧ x.place = k then x.b else b) := rfl
    rw [h1, h2]
    by_cases hx : x.dev = i ∧ x.place = k
    · rw [if_pos hx, if_pos hx, lastO_some]
    · rw [if_neg hx, if_neg hx]
      refine lastO_none i k b ws ?_
      obtain ⟨y, hy, hc⟩ := h
      rcases List.mem_cons.1 hy with rfl | hy
      · exact absurd hc hx
      · exact ⟨y, hy, hc⟩
theorem lastO_take {ws : List Wr} {q : Nat} {x : Wr} (hx : ws[q]? = some x) (i k : Nat) (o : Option (List UInt8)) : lastO (ws.take (q + 1)) i k o = if x.dev = i ∧ x.place = k then some x.b else lastO (ws.take q) i k o := by
  obtain ⟨hk, e⟩ := List.getElem?_eq_some_iff.1 hx
  rw [List.take_succ_eq_append_getElem hk, e]
  unfold lastO
  rw [List.foldl_append]
  rfl
/-- A place within a device's length has bytes. -/
theorem place_has {p : PM} (hok : p.Ok) {j : Nat} {d : Dev} (hd : p.devs[j]? = some d) {pl : Nat} (hp : pl < d.size p.waits j) :
    lastO p.waits j pl (if pl < d.has.length then some (d.at_ pl) else none) = some (lastW p.waits j pl (d.at_ pl)) := by
  by_cases h : pl < d.has.length
  · rw [if_pos h, lastO_some]
  · rw [if_neg h]
    refine lastO_none _ _ _ _ ?_
    unfold Dev.size at hp
    cases ht : d.tape with
    | false =>
      rw [ht] at hp
      have := hok.disk j d hd ht
      simp at hp
      omega
    | true =>
      rw [ht] at hp
      simp at hp
      have hw := hok.wtape j d hd ht
      have hm : pl ∈ (p.waits.filter fun x => x.dev == j).map (·.place) := by
        rw [hw]
        exact List.mem_range'_1.2 ⟨by omega, by omega⟩
      obtain ⟨x, hx, hxp⟩ := List.mem_map.1 hm
      obtain ⟨hx1, hx2⟩ := List.mem_filter.1 hx
      exact ⟨x, hx1, by simpa using hx2, hxp⟩
/-- The slice that holds what is read so far. -/
def Bv (S : Nat → Prop) (w : World) (o : Option (List UInt8)) (v : Value) : Prop := match o with
  | none => v = .slice none 0 0
  | some b => SecOk S w b v
def RdR (S : Nat → Prop) (w : World) (ws : List Wr) (j pl : Nat) (o : Option (List UInt8)) (bv kv : Value) (wr : World) : Prop :=
  ∃ k q : Nat, k ≤ ws.length ∧ kv = .int .i64 (k : Int) ∧ Bv S w (lastO (ws.take k) j pl o) bv ∧ wr = w.drewN q
/-- What the call gives back. -/
def RetB (w : World) (x : Option (List UInt8) × Int) (e : Ending) (w' : World) : Prop :=
  ∃ A N c, e = .returned (.tuple #[.slice A N c, .int .i64 x.2]) ∧ N = (x.1.getD []).length ∧ BAt w' A (x.1.getD []) ∧ (∀ ad, A = some ad → w.heap.size ≤ ad.block ∧ ad.block < w'.heap.size) ∧ Below w.heap.size w w'
set_option maxRecDepth 100000 in
set_option maxHeartbeats 4000000 in
theorem read_any {w : World} {F : Nat → Prop} {r : Nat} {p : PM} {left : Int} {D T V W : Value} (h : RefB S w F r p left D T V W) (hok : p.Ok) (hlow : p.waits.length ≤ 1000000000) (i k : Int) :
    Calls Try.prog 80 #[.pointer (some ⟨r, 0, none⟩), .int .i64 i, .int .i64 k] w (RetB w (p.read i k)) := by
  have HB := Lib.hid h
  have h4 := h.c4
  have HLN := Lib.hid (len_any h hok hlow i)
  have hnone : ∀ (c : Int) (w' : World), Below w.heap.size w w' → RetB w (none, c) (.returned (.tuple #[.slice none 0 0, .int .i64 c])) w' := fun c w' hb => ⟨_, _, _, rfl, rfl, BAt.nil_ _ _, fun ad h => (by cases h), hb⟩
  have HN := Lib.hid hnone
  clear hnone
  cases hoff : p.off with
  | true =>
    have e : p.read i k = (none, 2) := by unfold PM.read; rw [hoff]; rfl
    rw [e]
    rw [hoff] at h4
    clear h hoff e
    go_enter Try.func80, Try.ntmps80
    go_wp2_with fail
    go_ret2
    exact HN.out _ _ (Below.refl _ _)
  | false =>
    rw [hoff] at h4
    have HOF := Lib.hid hoff
    clear hoff
    rcases num_cases p i with ⟨hn, hi⟩ | ⟨j, d, rfl, hn, hj, hd⟩
    · have e : p.read i k = (none, 31) := by unfold PM.read; rw [HOF.out, hn]; rfl
      have e2 : p.len i = (0, 31) := by unfold PM.len; rw [hn]
      rw [e]
      rw [e2] at HLN
      clear h hn e e2
      go_enter Try.func80, Try.ntmps80
      go_wp2_with fail
      refine HLN.out.mono ?_
      rintro e _ ⟨rfl, q, rfl⟩
      go_wp2_with fail
      go_ret2
      exact HN.out _ _ (below_drewN (Below.refl _ _) _)
    · have HRD : Hid (p.read (j : Int) k = if 0 ≤ k ∧ k < d.size p.waits j then (some (lastW p.waits j k.toNat (d.at_ k.toNat)), 0) else (none, 31)) := Lib.hid (by
        unfold PM.read
        rw [HOF.out, hn]
        simp only [hd]
        rfl)
      have e2 : p.len j = (((d.size p.waits j : Nat) : Int), (0 : Int)) := by unfold PM.len; rw [hn]; simp only [hd]
      rw [e2] at HLN
      have HSZ := Lib.hid (Dev.size_le hok hd)
      have hmost := (hok.most j d hd).2.2
      have HD := Lib.hid hd
      clear hn e2 h
      obtain ⟨n, hnn⟩ : ∃ n, d.size p.waits j = n := ⟨_, rfl⟩
      have hn4 : n ≤ 4096 := by have := HSZ.out; omega
      rw [hnn] at HLN
      have HNN := Lib.hid hnn
      clear hnn hmost
      by_cases hk0 : k < 0
      · have e : p.read (j : Int) k = (none, 31) := by rw [HRD.out, if_neg (by omega)]
        rw [e]
        clear e
        go_enter Try.func80, Try.ntmps80
        go_wp2_with fail
        refine HLN.out.mono ?_
        rintro e _ ⟨rfl, q, rfl⟩
        go_wp2_with fail
        go_ret2
        exact HN.out _ _ (below_drewN (Below.refl _ _) _)
      · by_cases hkn : k < (n : Int)
        · obtain ⟨pl, rfl⟩ := Int.eq_ofNat_of_zero_le (show 0 ≤ k by omega)
          have hpl : pl < n := by omega
          have e : p.read (j : Int) (pl : Int) = (some (lastW p.waits j pl (d.at_ pl)), 0) := by rw [HRD.out, if_pos (by rw [HNN.out]; exact ⟨by omega, hkn⟩)]; rfl
          rw [e]
          clear e
          have HPH := Lib.hid (place_has hok HD.out (pl := pl) (by rw [HNN.out]; exact hpl))
          have h2 := HB.out.c2
          have h3 := HB.out.c3
          obtain ⟨AV, cV, rfl⟩ := HB.out.has.shape
          obtain ⟨AW, cW, rfl⟩ := HB.out.waits.shape
          obtain ⟨g, A', c', hA, _, hcell, hrow⟩ := HB.out.has.row (devs_has HD.out)
          subst hA
          have hml : (p.devs.map (·.has)).length = p.devs.length := by simp
          rw [hml] at h2
          have hjI : (j : Int) < (p.devs.length : Int) := by omega
          have hj12 : p.devs.length ≤ 12 := hok.n12
          have HRW := Lib.hid hrow
          have hwr : IntKind.i64.wrap (pl : Int) = (pl : Int) := IntWalk.i64_in _ (by omega)
          clear hml hrow hkn hk0
          have hstart : ∃ bv0 : Value, ∃ o, Bv S w o bv0 ∧ o = (if pl < d.has.length then some (d.at_ pl) else none) ∧ (pl < d.has.length → ∃ gs, A' = some ⟨gs, 0, none⟩ ∧ w.cell? ⟨gs, pl, none⟩ = some bv0) ∧ (¬ pl < d.has.length → bv0 = .slice none 0 0) := by
            by_cases hh : pl < d.has.length
            · have hx : d.has[pl]? = some (d.at_ pl) := by
                unfold Dev.at_
                rw [List.getD_eq_getElem?_getD, List.getElem?_eq_getElem hh]
                rfl
              obtain ⟨gs, v, hA, _, hc, hs⟩ := HRW.out.sec hx
              exact ⟨v, some (d.at_ pl), hs, by rw [if_pos hh], fun _ => ⟨gs, hA, hc⟩, fun h => absurd hh h⟩
            · exact ⟨.slice none 0 0, none, rfl, by rw [if_neg hh], fun h => absurd h hh, fun _ => rfl⟩
          obtain ⟨bv0, o, hbv, ho, hyes, hno⟩ := hstart
          rw [← ho] at HPH
          have HBV := Lib.hid hbv
          clear hbv ho
          by_cases hh : pl < d.has.length
          · have hhI : (pl : Int) < (d.has.length : Int) := by omega
            obtain ⟨gs, hA, hcs⟩ := hyes hh
            subst hA
            clear hyes hno
            go_enter Try.func80, Try.ntmps80
            go_wp2_with fail
            refine HLN.out.mono ?_
            rintro e _ ⟨rfl, q0, rfl⟩
            go_wp2_with fail
            go_loopw [10, 11] (fun bv kv wr => RdR S w p.waits j pl o bv kv wr) (fun _ kv _ => p.waits.length - (intOf kv).toNat)
            case atStart => exact ⟨0, q0, Nat.zero_le _, rfl, HBV.out, rfl⟩
            case round =>
              obtain ⟨q, q1, hq, rfl, hb, rfl⟩ := hrel
              have HBB := Lib.hid hb
              clear hb
              by_cases hlt : q < p.waits.length
              · obtain ⟨x, hx⟩ : ∃ x, p.waits[q]? = some x := ⟨_, List.getElem?_eq_getElem hlt⟩
                obtain ⟨gw, v, hA, _, e0, e1, e2, hsec, _⟩ := HB.out.waits.row hx
                subst hA
                have e0' : w.cell? ⟨gw, q * 3, none⟩ = some (.int .i64 (x.dev : Int)) := e0
                have e1' : w.cell? ⟨gw, q * 3 + 1, none⟩ = some (.int .i64 (x.place : Int)) := e1
                have HT := Lib.hid (lastO_take hx j pl o)
                have HSEC := Lib.hid hsec
                clear e0 e1 hx hsec
                have hkI : (q : Int) < (p.waits.length : Int) := by omega
                have hcases : (x.dev ≠ j) ∨ (x.dev = j ∧ x.place ≠ pl) ∨ (x.dev = j ∧ x.place = pl) := by omega
                rcases hcases with hc | ⟨hc, hc2⟩ | ⟨hc, hc2⟩
                · have d0 : ((x.dev : Int) == (j : Int)) = false := by simp; omega
                  have HC := Lib.hid hc
                  clear hc
                  go_wp2_with fail
                  go_roundw
                  case rel => exact ⟨q + 1, _, hlt, by simp, by rw [HT.out, if_neg (fun h => HC.out h.1)]; exact HBB.out, rfl⟩
                  case measure => simp [intOf]; omega
                · have d0 : ((x.dev : Int) == (j : Int)) = true := by simp; omega
                  have d1 : ((x.place : Int) == (pl : Int)) = false := by simp; omega
                  have HC := Lib.hid hc2
                  clear hc hc2
                  go_wp2_with fail
                  go_roundw
                  case rel => exact ⟨q + 1, _, hlt, by simp, by rw [HT.out, if_neg (fun h => HC.out h.2)]; exact HBB.out, rfl⟩
                  case measure => simp [intOf]; omega
                · have d0 : ((x.dev : Int) == (j : Int)) = true := by simp; omega
                  have d1 : ((x.place : Int) == (pl : Int)) = true := by simp; omega
                  have HC := Lib.hid hc
                  have HC2 := Lib.hid hc2
                  clear hc hc2
                  go_wp2_with fail
                  go_roundw
                  case rel => exact ⟨q + 1, _, hlt, by simp, by rw [HT.out, if_pos ⟨HC.out, HC2.out⟩]; exact HSEC.out, rfl⟩
                  case measure => simp [intOf]; omega
              · obtain rfl : q = p.waits.length := by omega
                have hfin := HBB.out
                rw [List.take_length, HPH.out] at hfin
                obtain ⟨AB, cB, rfl, hbat, h64⟩ := SecOk.slice (w := w) hfin
                have HBT := Lib.hid hbat
                have H64 := Lib.hid h64
                clear hfin hbat h64
                go_wp2_with
                  (at_builtin
                   refine wpList_append_bytes rfl (.tmp 92) (.tmp 93) _ rfl w.heap.size _ byteTy _ 0 0 [] rfl (Own.new (w.drewN q1) _ _ rfl (Nat.le_refl _) (by rfl) rfl (by decide)) AB 64 cB (lastW p.waits j pl (d.at_ pl)) rfl ((HBT.out.below (below_drewN (Below.refl _ w) q1)).below (below_al' _)) H64.out 64 (by omega) (by omega) (by simp) ?_
                   intro A5 c5 w5 ho5 hg5 hb5 _
                   have HO5 := Lib.hid ho5
                   have HB5 := Lib.hid hb5
                   clear ho5 hg5 hb5)
                go_ret2
                have ho := HO5.out
                rw [List.nil_append] at ho
                refine ⟨A5, 64, c5, rfl, H64.out.symm, ho.bat, fun ad hA => ?_, ((below_drewN (Below.refl w.heap.size w) q1).alloc (Nat.le_refl _) _).trans HB5.out⟩
                rcases ho.form with ⟨h1, _⟩ | ⟨g', h1, h2, h3⟩
                · rw [h1] at hA; cases hA
                · rw [h1] at hA
                  injection hA with hA
                  subst hA
                  exact ⟨h2, h3⟩
          · have hhI : ¬ (pl : Int) < (d.has.length : Int) := by omega
            have hbe := hno hh
            subst hbe
            clear hyes hno
            go_enter Try.func80, Try.ntmps80
            go_wp2_with fail
            refine HLN.out.mono ?_
            rintro e _ ⟨rfl, q0, rfl⟩
            go_wp2_with fail
            go_loopw [10, 11] (fun bv kv wr => RdR S w p.waits j pl o bv kv wr) (fun _ kv _ => p.waits.length - (intOf kv).toNat)
            case atStart => exact ⟨0, q0, Nat.zero_le _, rfl, HBV.out, rfl⟩
            case round =>
              obtain ⟨q, q1, hq, rfl, hb, rfl⟩ := hrel
              have HBB := Lib.hid hb
              clear hb
              by_cases hlt : q < p.waits.length
              · obtain ⟨x, hx⟩ : ∃ x, p.waits[q]? = some x := ⟨_, List.getElem?_eq_getElem hlt⟩
                obtain ⟨gw, v, hA, _, e0, e1, e2, hsec, _⟩ := HB.out.waits.row hx
                subst hA
                have e0' : w.cell? ⟨gw, q * 3, none⟩ = some (.int .i64 (x.dev : Int)) := e0
                have e1' : w.cell? ⟨gw, q * 3 + 1, none⟩ = some (.int .i64 (x.place : Int)) := e1
                have HT := Lib.hid (lastO_take hx j pl o)
                have HSEC := Lib.hid hsec
                clear e0 e1 hx hsec
                have hkI : (q : Int) < (p.waits.length : Int) := by omega
                have hcases : (x.dev ≠ j) ∨ (x.dev = j ∧ x.place ≠ pl) ∨ (x.dev = j ∧ x.place = pl) := by omega
                rcases hcases with hc | ⟨hc, hc2⟩ | ⟨hc, hc2⟩
                · have d0 : ((x.dev : Int) == (j : Int)) = false := by simp; omega
                  have HC := Lib.hid hc
                  clear hc
                  go_wp2_with fail
                  go_roundw
                  case rel => exact ⟨q + 1, _, hlt, by simp, by rw [HT.out, if_neg (fun h => HC.out h.1)]; exact HBB.out, rfl⟩
                  case measure => simp [intOf]; omega
                · have d0 : ((x.dev : Int) == (j : Int)) = true := by simp; omega
                  have d1 : ((x.place : Int) == (pl : Int)) = false := by simp; omega
                  have HC := Lib.hid hc2
                  clear hc hc2
                  go_wp2_with fail
                  go_roundw
                  case rel => exact ⟨q + 1, _, hlt, by simp, by rw [HT.out, if_neg (fun h => HC.out h.2)]; exact HBB.out, rfl⟩
                  case measure => simp [intOf]; omega
                · have d0 : ((x.dev : Int) == (j : Int)) = true := by simp; omega
                  have d1 : ((x.place : Int) == (pl : Int)) = true := by simp; omega
                  have HC := Lib.hid hc
                  have HC2 := Lib.hid hc2
                  clear hc hc2
                  go_wp2_with fail
                  go_roundw
                  case rel => exact ⟨q + 1, _, hlt, by simp, by rw [HT.out, if_pos ⟨HC.out, HC2.out⟩]; exact HSEC.out, rfl⟩
                  case measure => simp [intOf]; omega
              · obtain rfl : q = p.waits.length := by omega
                have hfin := HBB.out
                rw [List.take_length, HPH.out] at hfin
                obtain ⟨AB, cB, rfl, hbat, h64⟩ := SecOk.slice (w := w) hfin
                have HBT := Lib.hid hbat
                have H64 := Lib.hid h64
                clear hfin hbat h64
                go_wp2_with
                  (at_builtin
                   refine wpList_append_bytes rfl (.tmp 92) (.tmp 93) _ rfl w.heap.size _ byteTy _ 0 0 [] rfl (Own.new (w.drewN q1) _ _ rfl (Nat.le_refl _) (by rfl) rfl (by decide)) AB 64 cB (lastW p.waits j pl (d.at_ pl)) rfl ((HBT.out.below (below_drewN (Below.refl _ w) q1)).below (below_al' _)) H64.out 64 (by omega) (by omega) (by simp) ?_
                   intro A5 c5 w5 ho5 hg5 hb5 _
                   have HO5 := Lib.hid ho5
                   have HB5 := Lib.hid hb5
                   clear ho5 hg5 hb5)
                go_ret2
                have ho := HO5.out
                rw [List.nil_append] at ho
                refine ⟨A5, 64, c5, rfl, H64.out.symm, ho.bat, fun ad hA => ?_, ((below_drewN (Below.refl w.heap.size w) q1).alloc (Nat.le_refl _) _).trans HB5.out⟩
                rcases ho.form with ⟨h1, _⟩ | ⟨g', h1, h2, h3⟩
                · rw [h1] at hA; cases hA
                · rw [h1] at hA
                  injection hA with hA
                  subst hA
                  exact ⟨h2, h3⟩
        · have e : p.read (j : Int) k = (none, 31) := by rw [HRD.out, if_neg (by rw [HNN.out]; omega)]
          rw [e]
          clear e
          go_enter Try.func80, Try.ntmps80
          go_wp2_with fail
          refine HLN.out.mono ?_
          rintro e _ ⟨rfl, q, rfl⟩
          go_wp2_with fail
          go_ret2
          exact HN.out _ _ (below_drewN (Below.refl _ _) _)
end Go.Proofs.Ytomncfiklkhfjaa.Ref
