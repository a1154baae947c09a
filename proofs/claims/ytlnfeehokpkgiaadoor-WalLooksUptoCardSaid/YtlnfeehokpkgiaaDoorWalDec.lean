/- The journal's 'decode'. -/
import Derived.Test.YtlnfeehokpkgiaaDoorWalTx
namespace Go.Proofs.YtlnfeehokpkgiaaDoor.Wal
open Go Go.RowKit Mem Pl Disk Crc _root_.Go.Proofs.YtlnfeehokpkgiaaDoor.Frame
theorem rowsTy : ElTy Tryd.prog 42 32 1 24 (.slice none 0 0) := ⟨Tryd.underlying42, by kernel_rfl, by kernel_rfl, by decide⟩
def row16 : Array Value := (List.replicate 16 (Value.slice none 0 0)).toArray
theorem run_make16 (w : World) : (Instr.makeSlice 42 (.int .i64 0) (.int .i64 16)).run Tryd.prog w = .ok (.slice (some ⟨w.heap.size, 0, none⟩) 0 16) (w.alloc (.cells row16 32)) := by kernel_rfl
theorem ByJ.grown {w w' : World} {J F : Nat → Prop} {b : List UInt8} {v : Value} {row : Option Nat} (x : ByJ w J b v) (hg : w.grownBy w' row) (hr : row = none ∨ ∃ g cs, row = some g ∧ F g ∧ w.heap[g]? = some (Obj.cells cs 32 (0, 0))) : ByJ w' J b v :=
  Vec.heap x fun g cs hcs => by
    have hlt : g < w.heap.size := (Array.getElem?_eq_some_iff.1 hcs).1
    refine (hg.block g hlt ?_).trans hcs
    rcases hr with h | ⟨g', cs', h, _, hc⟩
    · rw [h]
      intro e
      cases e
    · rw [h]
      intro e
      injection e with e
      subst e
      rw [hcs] at hc
      injection hc with hc
      injection hc with _ h2
      exact absurd h2 (by decide)
theorem RowsJ.grown {w w' : World} {J F : Nat → Prop} {l : List (List UInt8)} {vs : List Value} {row : Option Nat} (x : RowsJ w J l vs) (hg : w.grownBy w' row) (hr : row = none ∨ ∃ g cs, row = some g ∧ F g ∧ w.heap[g]? = some (Obj.cells cs 32 (0, 0))) : RowsJ w' J l vs :=
  fun k b hb => (x k b hb).imp fun _v h => ⟨h.1, h.2.grown hg hr⟩
theorem RowsJ.snoc {w : World} {J : Nat → Prop} {l : List (List UInt8)} {vs : List Value} {b : List UInt8} {v : Value} (x : RowsJ w J l vs) (hl : vs.length = l.length) (h : ByJ w J b v) : RowsJ w J (l ++ [b]) (vs ++ [v]) := fun k c hc => by
  rcases Nat.lt_or_ge k l.length with hk | hk
  · rw [List.getElem?_append_left hk] at hc
    obtain ⟨u, hu, hb⟩ := x k c hc
    exact ⟨u, by rw [List.getElem?_append_left (by omega)]; exact hu, hb⟩
  · rw [List.getElem?_append_right hk] at hc
    obtain ⟨h1, h2⟩ := List.getElem?_eq_some_iff.1 hc
    have hk' : k = l.length := by simp at h1; omega
    subst hk'
    simp at h2
    subst h2
    exact ⟨v, by rw [← hl]; simp, h⟩
/-- What 'decode' answers. -/
def RetDc (w : World) (bs : List UInt8) (e : Ending) (w' : World) : Prop :=
  ∃ v, e = .returned (.tuple #[v, .bool (decM bs).isSome]) ∧ (∀ tx, decM bs = some tx → TxAt w' (New w w') tx v) ∧ Below w.heap.size w w'
def DecR (w : World) (q : Nat) (b0 : List UInt8) (tv bv iv : Value) (wr : World) : Prop :=
  ∃ (i : Nat) (acc : Tx) (AT : Option Addr) (cT : Nat) (AR : Option Addr) (m' cR : Nat) (bs : List UInt8), i ≤ q ∧ iv = .int .i64 (i : Int) ∧ acc.length = i ∧ tv = .slice AT i cT ∧ TxAt wr (New w wr) acc (.slice AT i cT) ∧ bv = .slice AR m' cR ∧ bs.length = m' ∧ m' ≤ cR ∧ m' ≤ b0.length ∧ BAt wr AR bs ∧ decGo q b0 [] = decGo (q - i) bs acc ∧ Below w.heap.size w wr
set_option maxRecDepth 100000 in
set_option maxHeartbeats 4000000 in
theorem decode_any (w : World) (A : Option Addr) (bs : List UInt8) (m cap : Nat) (hl : bs.length = m) (hcap : m ≤ cap) (hm : m ≤ 1000000) (hb : BAt w A bs) :
    Calls Tryd.prog 63 #[.slice A m cap] w (RetDc w bs) := by
  cases bs with
  | nil =>
    obtain rfl : m = 0 := hl.symm
    clear hb
    go_enter Tryd.func63, Tryd.ntmps63
    go_wp2_with fail
    go_ret2
    refine ⟨_, rfl, ?_, Below.refl _ _⟩
    intro tx h
    exact nomatch h
  | cons c0 b0 =>
    obtain ⟨q, hq⟩ : ∃ q, c0.toNat = q := ⟨_, rfl⟩
    have hq256 : q < 256 := by rw [← hq]; exact c0.toNat_lt
    have hm1 : b0.length + 1 = m := by simpa using hl
    have hm0 : 1 ≤ m := by omega
    obtain ⟨ad, rfl, hcs⟩ := hb (by simp)
    have hc0 : w.cell? ad = some (.int .u8 (q : Int)) := by
      have h := hcs 0 (by simp)
      have e : ad.add 0 = ad := rfl
      rw [e] at h
      simpa [V8, hq] using h
    have hmk := run_make16
    have HD : Hid (decM (c0 :: b0) = decGo q b0 []) := Lib.hid (by show decGo c0.toNat b0 [] = _; rw [hq])
    have hcut := fun W => run_cut_l (P := Tryd.prog) 32 5 Pl.byteTy (some ad) m cap .i64 1 1 rfl hm0 W
    have HBT : Hid (BAt w (cutA (some ad) cap 1) b0) := Lib.hid (by
      have := BAt.cut hb cap 1 (by simp; omega)
      simpa using this)
    have hb1 := below_al' (w := w) (.cells row16 32)
    have hc1 := (hb1.cell (cell_lt hc0)).trans hc0
    have HT0 : Hid (TxAt (w.alloc (.cells row16 32)) (New w (w.alloc (.cells row16 32))) [] (.slice (some ⟨w.heap.size, 0, none⟩) 0 16)) := Lib.hid ⟨[], ⟨_, _, rfl, rfl, .inr ⟨w.heap.size, _, rfl, ⟨Nat.le_refl _, by simp⟩, heap_alloc_new w _, Nat.zero_le _, by decide, by unfold row16; simp, by simp⟩⟩, fun k b hb => by simp at hb⟩
    have HB1 := Lib.hid hb1
    have HMC := Lib.hid hm1
    clear hb1 hb hcs hl
    rw [show RetDc w (c0 :: b0) = RetDc w (c0 :: b0) from rfl]
    go_enter Tryd.func63, Tryd.ntmps63
    go_wp2_with fail
    generalize w.alloc (.cells row16 32) = w1 at *
    refine Ord.region_ordM [] [3] [0, 1, 2, 3, 4, 5, 6, 7] (by kernel_rfl) (by kernel_rfl) (by kernel_rfl) (by kernel_rfl) (Ord.ord_run [0, 1, 2] [_, _, _] rfl (by kernel_rfl) ?_)
    have hc2 : w1.drew.cell? ad = some (.int .u8 (q : Int)) := hc1
    have hwq : IntKind.i64.wrap (q : Int) = (q : Int) := IntWalk.i64_in _ (by omega)
    go_wp2_with fail
    refine Ord.nx_ord (Ord.ord_pure (.int .i64 (q : Int)) rfl (by kernel_rfl) (by rfl) (fun w' => by first | (go_simp; done) | (go_simp; exact hwq)) ?_)
    simp only [Act.put]
    refine Ord.ord_all [_, _, _, _] rfl (by kernel_rfl) ?_
    go_wp2_with fail
    refine Ord.nx_end ?_
    clear hmk hcut
    go_wp2_with fail
    go_loopw [4, 0, 20] (fun tv bv iv wr => DecR w q b0 tv bv iv wr) (fun _ _ iv _ => q - (intOf iv).toNat)
    case atStart => exact ⟨0, [], _, 16, _, m - 1, cap - 1, b0, by omega, rfl, rfl, rfl, HT0.out, rfl, by omega, by omega, by omega, HBT.out.below HB1.out.drew, rfl, HB1.out.drew⟩
    case round =>
      obtain ⟨i, acc, AT, cT, AR, m', cR, bs', hi, rfl, hacc, rfl, htx, rfl, hbl, hcr, hmb, hbat, hgo, hbw⟩ := hrel
      have HTX := Lib.hid htx
      have HBL := Lib.hid hbl
      have HBAT := Lib.hid hbat
      have HGO := Lib.hid hgo
      have HBW := Lib.hid hbw
      have HACC := Lib.hid hacc
      clear htx hbl hbat hgo hbw hacc HT0 HBT HB1
      by_cases hlt : i < q
      · have hiI : (i : Int) < (q : Int) := by omega
        obtain ⟨p, hp⟩ : ∃ p, q - i = p + 1 := ⟨q - i - 1, by omega⟩
        by_cases h2 : m' < 2
        · have HTK := Lib.hid (take_short AR m' cR 2 wr (by omega) (by omega) (by omega))
          have HN : Hid (decM (c0 :: b0) = none) := Lib.hid (by
            rw [HD.out, HGO.out, hp]
            unfold decGo
            rw [if_pos (by rw [HBL.out]; exact h2)])
          clear hp
          go_wp2_with fail
          refine HTK.out.mono ?_
          rintro e w2 ⟨A2, N2, c2, rfl, ho2, hb2⟩
          have hN2 : N2 = 0 := ho2.len.symm
          subst hN2
          have HB2 := Lib.hid (HBW.out.trans (hb2.mono HBW.out.size))
          clear ho2 hb2 HTK
          go_wp2_with fail
          go_ret2
          rw [RetDc, HN.out]
          exact ⟨_, rfl, (fun tx h => nomatch h), HB2.out⟩
        · have HTK := Lib.hid (take_yes AR bs' m' cR 2 wr HBL.out hcr (by omega) HBAT.out (by omega) (by omega) (by omega))
          obtain ⟨x, hx⟩ : ∃ x, be (bs'.take 2) = x := ⟨_, rfl⟩
          have hx2 : x < 65536 := by
            rw [← hx]
            have h1 := be_lt (bs'.take 2)
            rw [List.length_take, HBL.out, Nat.min_eq_left (by omega)] at h1
            omega
          have HX := Lib.hid hx
          have HSTEP : Hid (decGo (p + 1) bs' acc = if m' - 2 < x then none else decGo p ((bs'.drop 2).drop x) (acc ++ [(bs'.drop 2).take x])) := Lib.hid (by
            conv => lhs; unfold decGo
            rw [if_neg (by rw [HBL.out]; exact h2), List.length_drop, HBL.out, hx])
          clear hx
          go_wp2_with fail
          refine HTK.out.mono ?_
          rintro e w2 ⟨A2, N2, c2, rfl, ho2, hb2⟩
          have hN2 : N2 = m' - 2 := by have h1 := ho2.len; rw [List.length_drop, HBL.out] at h1; omega
          subst hN2
          have hc2 := ho2.cap_le.1
          have HO2 := Lib.hid ho2
          have HB2 := Lib.hid (HBW.out.trans (hb2.mono HBW.out.size))
          have HTX2 := Lib.hid (HTX.out.below hb2)
          have HZ2 := Lib.hid hb2.size
          clear ho2 hb2 HTK
          simp only
          rw [HX.out]
          obtain ⟨r, hr⟩ : ∃ r, m' - 2 = r := ⟨_, rfl⟩
          rw [hr] at HO2 hc2 HSTEP ⊢
          have hwr : IntKind.u64.wrap (r : Int) = (r : Int) := by rw [IntKind.wrap_u64]; omega
          by_cases hxr : r < x
          · have hxI : (r : Int) < (x : Int) := by omega
            have HN : Hid (decM (c0 :: b0) = none) := Lib.hid (by rw [HD.out, HGO.out, hp, HSTEP.out, if_pos hxr])
            clear hp hr
            go_wp2_with fail
            go_ret2
            rw [RetDc, HN.out]
            exact ⟨_, rfl, (fun tx h => nomatch h), HB2.out⟩
          · have hxI : ¬ (r : Int) < (x : Int) := by omega
            have hcut1 := fun W => run_cut_h (P := Tryd.prog) 32 5 Pl.byteTy A2 r c2 .u64 (x : Int) x rfl (by omega) W
            have hcut2 := fun W => run_cut_l (P := Tryd.prog) 32 5 Pl.byteTy A2 r c2 .u64 (x : Int) x rfl (by omega) W
            have HTK2 : Hid (((bs'.drop 2).take x).length = x) := Lib.hid (by rw [List.length_take, List.length_drop, HBL.out]; omega)
            have hrI : (m' : Nat) = r + 2 := by omega
            obtain ⟨vs, hvT, hrT⟩ := HTX2.out
            rw [HACC.out] at hvT
            have HVT := Lib.hid hvT
            have HRT := Lib.hid hrT
            have HB2z := HB2.out.size
            have HNXT : Hid (decGo q b0 [] = decGo (q - (i + 1)) ((bs'.drop 2).drop x) (acc ++ [(bs'.drop 2).take x])) := Lib.hid (by
              rw [HGO.out, hp, HSTEP.out, if_neg hxr, show q - (i + 1) = p by omega])
            clear hvT hrT HTX HTX2 hp
            go_wp2_with (first
              | (at_builtin
                 (refine wpList_append_bytes rfl (.tmp 38) (.tmp 41) _ rfl w2.heap.size _ Pl.byteTy _ 0 0 [] rfl (Own.new w2 _ _ rfl (Nat.le_refl _) (by rfl) rfl (by decide)) A2 x c2 _ rfl ((HO2.out.bat.take x).below (below_al' _)) HTK2.out x (Nat.zero_add x) (by omega) (by simp) ?_
                  intro A3 c3 w3 ho3 hg3 hb3 hA3
                  rw [List.nil_append] at ho3
                  have hb23 := (below_al' (w := w2) (.cells #[] 5)).trans (hb3.mono (by simp))
                  have HO3 := Lib.hid ho3
                  have HB23 := Lib.hid hb23
                  clear ho3 hg3 hb3 hA3 hb23))
              | (at_builtin
                 (refine wpList_append_vec rfl (.tmp 37) (.tmp 43) _ rfl 24 _ rowsTy rfl ((HVT.out.below HB23.out).below (below_al' _)) ⟨w3.heap.size, 0, none⟩ 1 1 [.slice A3 x c3] rfl rfl (blk_news (Blk.new w3 _ _)) (by intro v hv; simp at hv; subst hv; rfl) ?c1 ?c2 ?_
                  case c1 => unfold maxLen; omega
                  case c2 => omega
                  intro v4 w4 row hv4 hg4 hr4
                  obtain ⟨A4, c4, rfl⟩ := hv4.shape
                  have HV4 := Lib.hid hv4
                  have HG4 := Lib.hid hg4
                  have HR4 := Lib.hid hr4
                  clear hv4 hg4 hr4)))
            go_roundw
            case rel =>
              have hsz4 : w3.heap.size + 1 ≤ w4.heap.size := by have := HG4.out.size; simpa using this
              have hsz3 := HB23.out.size
              have hszr := HZ2.out
              have hszw := HBW.out.size
              refine ⟨i + 1, _, A4, c4, cutA A2 c2 x, r - x, c2 - x, (bs'.drop 2).drop x, by omega, by simp, by simp [HACC.out], rfl, ?_, rfl, by rw [List.length_drop, List.length_drop, HBL.out]; omega, by omega, by omega, ?_, HNXT.out, ?_⟩
              · refine ⟨vs ++ [.slice A3 x c3], ?_, ?_⟩
                · rw [List.length_append, HACC.out]
                  exact HV4.out.mono fun g hlt hg => by
                    rcases hg with hg | hg
                    · exact ⟨hg.1, by have := hg.2; omega⟩
                    · exact ⟨by have := hg.1; simp at this; omega, hlt⟩
                · have h1 : RowsJ (w3.alloc (.cells #[.slice A3 x c3] 32)) (New w w4) acc vs := ((HRT.out.below HB23.out).below (below_al' _)).mono fun g _ hg => ⟨hg.1, by have := hg.2; omega⟩
                  have h2 : ByJ (w3.alloc (.cells #[.slice A3 x c3] 32)) (New w w4) ((bs'.drop 2).take x) (.slice A3 x c3) := by
                    show Vec _ _ _ _ _ _ _
                    rw [HTK2.out]
                    exact Vec.of_own (HO3.out.alloc _) fun g hg hlt => ⟨by omega, by simp at hlt; omega⟩
                  exact (h1.snoc (by rw [HVT.out.len, HACC.out, Nat.mul_one]) h2).grown HG4.out HR4.out
              · have h1 := (HO2.out.below HB23.out).alloc (.cells #[.slice A3 x c3] 32)
                have h2 : Own w4 wr.heap.size 5 A2 r c2 (bs'.drop 2) := h1.kept HG4.out (by
                  rcases h1.form with ⟨h, _⟩ | ⟨g, h, hg, _⟩
                  · exact .inl h
                  · refine .inr ?_
                    rw [h]
                    rcases HR4.out with h | ⟨g', cs, h, hg', _⟩
                    · rw [h]
                      intro e
                      cases e
                    · rw [h]
                      intro e
                      injection e with e
                      have e' : g = g' := e
                      have := hg'.2
                      omega)
                exact h2.bat.cut c2 x (by rw [h2.len]; omega)
              · exact (HB2.out.trans ((HB23.out.trans ((below_al' (w := w3) _).mono hsz3)).mono HB2.out.size)).grown HG4.out (by simp; omega) fun g hg => by
                  rcases HR4.out with h | ⟨g', cs, h, hg', _⟩
                  · rw [h] at hg; cases hg
                  · rw [h] at hg
                    injection hg with hg
                    have := hg'.1
                    omega
            case measure => simp [intOf]; omega
      · obtain rfl : i = q := by omega
        have hz : decM (c0 :: b0) = if bs' = [] then some acc else none := by
          rw [HD.out, HGO.out, Nat.sub_self]
          rfl
        have HZ := Lib.hid hz
        clear hz
        by_cases h0 : m' = 0
        · have hb0 : bs' = [] := List.eq_nil_of_length_eq_zero (by rw [HBL.out]; exact h0)
          have HN : Hid (decM (c0 :: b0) = some acc) := Lib.hid (by rw [HZ.out, if_pos hb0])
          subst h0
          clear hb0
          go_wp2_with fail
          go_ret2
          rw [RetDc, HN.out]
          refine ⟨_, rfl, ?_, HBW.out⟩
          intro tx h
          rw [← Option.some.inj h]
          exact HTX.out
        · have hb0 : ¬ bs' = [] := fun e => h0 (by rw [← HBL.out, e]; rfl)
          have HN : Hid (decM (c0 :: b0) = none) := Lib.hid (by rw [HZ.out, if_neg hb0])
          have h0I : ((m' : Int) == 0) = false := by simp; omega
          clear hb0 h0
          go_wp2_with fail
          go_ret2
          rw [RetDc, HN.out]
          exact ⟨_, rfl, (fun tx h => nomatch h), HBW.out⟩
end Go.Proofs.YtlnfeehokpkgiaaDoor.Wal
