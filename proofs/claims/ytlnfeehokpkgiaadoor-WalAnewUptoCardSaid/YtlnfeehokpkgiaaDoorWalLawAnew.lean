/- The law 'WalAnew': what was taken away never comes again. -/
import Derived.Test.YtlnfeehokpkgiaaDoorWalTold
namespace Go.Proofs.YtlnfeehokpkgiaaDoor.Wal
open Go Go.RowKit Mem Pl Disk Crc _root_.Go.Proofs.YtlnfeehokpkgiaaDoor.Frame
def AnwO (W : World) (a : Nat) (r : Nat) (iv : Value) (wr : World) : Prop :=
  ∃ (i : Nat) (F K : Nat → Prop) (pm : PM) (n : Nat) (H : List (List UInt8)) (G E S nx : Nat) (txs : List Tx), iv = .int .i64 (i : Int) ∧ i ≤ r ∧ Onz W.heap.size wr F K a pm n 0 64 H G E S nx txs ∧ n ≤ 132 + 200 * i ∧ G ≤ 1 + 3 * i ∧ (i = 0 → txs = []) ∧ Below W.heap.size W wr
def AnwI (W : World) (K : Nat → Prop) (a n3 G g m : Nat) (tv kv : Value) (wr : World) : Prop :=
  ∃ (k : Nat) (F : Nat → Prop) (pm : PM) (H : List (List UInt8)) (nx : Nat) (told : List Tx), kv = .int .i64 (k : Int) ∧ k ≤ m ∧ Onz W.heap.size wr F K a pm (n3 + 25 * k) 0 64 H G G G nx told ∧ WalB wr g a 0 64 ⟨G, G, nx, told.length + 1⟩ ∧
    ToldAt W wr (Calm W.heap.size F K) told tv ∧ told.length ≤ k ∧ Below W.heap.size W wr
set_option maxRecDepth 100000 in
set_option maxHeartbeats 16000000 in
theorem lawAnew (A0 : Option Addr) (n0 c0 : Nat) (l : List Tx) (z : Int) (hz : inI z) (KA : Option Addr) (kn kc : Nat) (keep : List Int) (W : World) (ht : Tab W) (hgc : 0 < W.heap.size) (hr : TxRows W A0 l) (hl : l.length = n0) (hn0 : n0 ≤ 1000000000)
    (hin : ∀ tx ∈ l, tx.length ≤ 1000000000 ∧ totM tx ≤ 1000000000000000) (hk : IAt W KA keep) (hkl : keep.length = kn) (hkm : kn ≤ 9223372036854775807) (hkW : keep ≠ [] → ∀ ad, KA = some ad → ad.block < W.heap.size) :
    Calls Tryd.prog 4 #[.slice A0 n0 c0, .int .i64 z, .slice KA kn kc] W fun e W' => e = .returned (.bool true) ∧ Below W.heap.size W W' := by
  have HSH := Lib.hid (shown_any W ht hgc)
  have HT := Lib.hid ht
  have HR := Lib.hid hr
  have HZ := Lib.hid hz
  have HIN := Lib.hid (⟨hin, hl⟩ : _ ∧ _)
  have HK := Lib.hid (⟨hk, hkl, hkW⟩ : _ ∧ _ ∧ _)
  obtain ⟨r, hrr⟩ : ∃ r, 1 + whichM z 6 = r := ⟨_, rfl⟩
  have hr6 : r ≤ 6 := by have := whichM_lt z (n := 6) (by omega); omega
  have hwr : IntKind.i64.wrap (1 + (whichM z 6 : Int)) = (r : Int) := by rw [show 1 + (whichM z 6 : Int) = (r : Int) by omega]; exact IntWalk.i64_in _ (by omega)
  clear ht hr hz hin hl hk hkl hkW hrr
  go_enter Tryd.func4, Tryd.ntmps4
  go_wp2_with fail
  refine HSH.out.mono ?_
  rintro e w0 ⟨rfl, hb0⟩
  have HB0 := Lib.hid hb0
  have HMD := Lib.hid (made_any w0 1 64 (by omega) (by omega) (by omega) (by omega))
  clear hb0 HSH
  go_wp2_with fail
  refine HMD.out.mono ?_
  rintro e w1 ⟨a, rfl, hp, hb1⟩
  have hb01 := HB0.out.trans (hb1.mono HB0.out.size)
  have HB1 := Lib.hid hb01
  have hst1 : St W.heap.size w1 (New w0 w1) a (walPM 1 64) 0 := St.new hp HB0.out.size (walPM_new (by omega) (by omega) (by omega) (by omega))
  have HST1 := Lib.hid hst1
  have HFM := Lib.hid (onz_format (K := fun _ => False) hst1 (walPM_disk 1 64 0 (by omega)) rfl rfl (fun _ h => h.elim) hb01.size (HT.out.below hb01 hgc) hgc (by omega) (by omega))
  clear hp hb1 hb01 hst1 HMD
  go_wp2_with fail
  refine HFM.out.mono ?_
  rintro e w3 ⟨F3, pm3, rfl, hf3, x3⟩
  have HB3 := Lib.hid (HB1.out.trans (hf3.lows HST1.out (fun _ h => h.elim) HB1.out.size))
  have HX3 := Lib.hid x3
  clear hf3 x3 HFM
  go_wp2_with fail
  go_loopw [10] (fun iv wr => AnwO W a r iv wr) (fun iv _ => 7 - (intOf iv).toNat)
  case atStart => exact ⟨0, _, _, _, _, _, _, _, _, _, _, rfl, by omega, HX3.out, by omega, by omega, fun _ => rfl, HB3.out⟩
  case round =>
    obtain ⟨i, F, K, pm, n, H, G, E, S, nx, txs, rfl, hi, x, hn, hG, hi0, hbw⟩ := hrel
    have HX := Lib.hid x
    have HBW := Lib.hid hbw
    have HI0 := Lib.hid hi0
    have HWH := Lib.hid (which_any wr z 6 (by omega) (by omega) HZ.out)
    have HOP := Lib.hid (x.open_ (by omega) (by omega))
    clear x hbw hi0
    by_cases hlt : i < r
    · have hltI : (i : Int) < (r : Int) := by omega
      go_wp2_with fail
      refine HWH.out.mono ?_
      rintro e _ ⟨rfl, rfl⟩
      go_wp2_with fail
      refine HOP.out.mono ?_
      rintro e w4 ⟨F4, pm4, H4, g, A4, c4, rfl, hf4, x4, hw4, _, _⟩
      have HB4 := Lib.hid (HBW.out.trans (hf4.lows HX.out.st HX.out.kok HX.out.size))
      have HX4 := Lib.hid x4
      have HTR := Lib.hid (x4.trunc (by omega) (by omega) hw4 (.inr rfl))
      clear hf4 x4 hw4 HOP
      go_wp2_with fail
      refine HTR.out.mono ?_
      rintro e w5 ⟨F5, pm5, H5, rfl, hf5, x5, hw5⟩
      have HB5 := Lib.hid (HB4.out.trans (hf5.lows HX4.out.st HX4.out.kok HX4.out.size))
      have HX5 := Lib.hid x5
      have HW5 := Lib.hid hw5
      clear hf5 x5 hw5 HTR
      obtain ⟨G2, hG2⟩ : ∃ q, G + 1 + 1 = q := ⟨_, rfl⟩
      rw [hG2] at HX5 HW5
      by_cases h0 : i = 0
      · obtain rfl := HI0.out h0
        have h0I : ((i : Int) == 0) = true := by simp; omega
        have H0 := Lib.hid h0
        clear h0
        go_wp2_with fail
        have hx6 := HX5.out.below (below_al' (w := w5) (.cells #[] 42))
        have HX6 := Lib.hid hx6
        have HW6 := Lib.hid (HW5.out.below (below_al' (w := w5) (.cells #[] 42)))
        have HB6 := Lib.hid (HB5.out.trans ((below_al' (w := w5) (.cells #[] 42)).mono HB5.out.size))
        clear hx6
        generalize w5.alloc (.cells #[] 42) = w6 at *
        go_loopw [15, 16] (fun tv kv wr => AnwI W (fun k => K k ∨ k = g) a (n + 2 + 2) G2 g (i + 1) tv kv wr) (fun _ kv _ => i + 1 - (intOf kv).toNat)
        case atStart => exact ⟨0, _, _, _, _, [], rfl, by omega, HX6.out, HW6.out, ⟨[], Vec.nil_ _ _ _ _ _, fun k tx h => by simp at h⟩, Nat.le_refl _, HB6.out⟩
        case round =>
          obtain ⟨k, F7, pm7, H7, nx7, told, rfl, hk7, x7, hw7, ht7, hl7, hb7⟩ := hrel
          obtain ⟨AT, cT, rfl, _⟩ := ht7.rows hb7
          have HX7 := Lib.hid x7
          have HT7 := Lib.hid ht7
          have HB7 := Lib.hid hb7
          by_cases hkl : k < n0
          · have hkI : (k : Int) < (n0 : Int) := by omega
            have hkN : decide (k < n0) = true := decide_eq_true hkl
            by_cases hki : k ≤ i
            · have hkiI : (k : Int) ≤ (i : Int) := by omega
              obtain ⟨tx, htx⟩ : ∃ tx, l[k]? = some tx := ⟨_, List.getElem?_eq_getElem (by rw [HIN.out.2]; exact hkl)⟩
              obtain ⟨ad, BA, cb, hA0, hc, hra⟩ := HR.out k tx htx
              have hc7 : wr.cell? (ad.add k) = some (.slice BA tx.length cb) := (hb7.cell (cell_lt hc)).trans hc
              have hxin := HIN.out.1 tx (List.mem_of_getElem? htx)
              have HAP := Lib.hid (x7.append (by omega) hw7 (.inr rfl) (c := cb) (hra.below hb7) rfl hxin.1 hxin.2)
              have HRA := Lib.hid hra
              have HC := Lib.hid hc
              subst hA0
              clear x7 hw7 ht7 hb7 hc hra hxin htx
              go_wp2_with fail
              refine HAP.out.mono ?_
              rintro e w8 ⟨F8, pm8, hf8, ⟨_, rfl, x8, hw8⟩ | ⟨_, _, rfl, x8, hw8⟩ | ⟨_, rfl, H8, x8, hw8⟩⟩
              · have HB8 := Lib.hid (HB7.out.trans (hf8.lows HX7.out.st HX7.out.kok HX7.out.size))
                have HT8 := Lib.hid (HT7.out.frame hf8.e)
                have HX8 := Lib.hid x8
                have HW8 := Lib.hid hw8
                clear x8 hw8 hf8 HAP hc7
                go_wp2_with fail
                go_roundw
                case rel => exact ⟨k + 1, F8, pm8, _, _, told, by simp, by omega, HX8.out, HW8.out, HT8.out, by omega, HB8.out⟩
                case measure => simp [intOf]; omega
              · have HB8 := Lib.hid (HB7.out.trans (hf8.lows HX7.out.st HX7.out.kok HX7.out.size))
                have HT8 := Lib.hid (HT7.out.frame hf8.e)
                have HX8 := Lib.hid x8
                have HW8 := Lib.hid hw8
                clear x8 hw8 hf8 HAP hc7
                go_wp2_with fail
                go_roundw
                case rel => exact ⟨k + 1, F8, pm8, _, _, told, by simp, by omega, HX8.out, HW8.out, HT8.out, by omega, HB8.out⟩
                case measure => simp [intOf]; omega
              · have HB8 := Lib.hid (HB7.out.trans (hf8.lows HX7.out.st HX7.out.kok HX7.out.size))
                obtain ⟨vs, hv8, hvr8⟩ := HT7.out.frame hf8.e
                have HV8 := Lib.hid hv8
                have HVR8 := Lib.hid hvr8
                have HX8 := Lib.hid x8
                have HW8 := Lib.hid hw8
                have hc8 : w8.cell? (ad.add k) = some (.slice BA tx.length cb) := (HB8.out.cell (cell_lt HC.out)).trans HC.out
                clear x8 hw8 hf8 hv8 hvr8 HAP hc7
                go_wp2_with
                  (at_builtin
                   (refine wpList_append_vec rfl (.tmp 82) (.tmp 87) _ rfl 24 _ txTy rfl (HV8.out.below (below_al' _)) ⟨w8.heap.size, 0, none⟩ 1 1 [.slice BA tx.length cb] rfl rfl (blk_news (Blk.new w8 _ _)) (by intro v hv; simp at hv; subst hv; rfl) ?c1 ?c2 ?_
                    case c1 => unfold maxLen; omega
                    case c2 => omega
                    intro v9 w9 row hv9 hg9 hr9
                    obtain ⟨A9, c9, rfl⟩ := hv9.shape
                    have HM9 := Lib.hid (mods_grow (below_al' (w := w8) (.cells #[.slice BA tx.length cb] 42)) hg9 hr9)
                    have HV9 := Lib.hid hv9
                    have hs9 : w8.heap.size + 1 ≤ w9.heap.size := by have := hg9.size; simpa using this
                    have HS9 := Lib.hid hs9
                    clear hv9 hg9 hr9 hs9))
                go_roundw
                case rel =>
                  have hb9 : Below W.heap.size w8 w9 := (HM9.out.mono HB8.out.size fun _ _ h => h).below fun k hk h => by have := h.1; omega
                  refine ⟨k + 1, F8, pm8, H8, _, told ++ [tx], by simp, by omega, HX8.out.mods HM9.out fun k h => h, Blk.mods HW8.out HM9.out (Blk.lt HW8.out) (fun h => h.2.2 (.inr rfl)), ToldAt.snoc (HV9.out.mono fun q hq h => ?_) (by rw [HV8.out.len, Nat.mul_one]) HVR8.out HRA.out, by simp; omega, HB8.out.trans hb9⟩
                  rcases h with h | h
                  · exact h
                  · have h1 := h.1
                    have h2 := HB8.out.size
                    simp at h1
                    exact ⟨by omega, fun hF => by have := (HX8.out.st.lt _ hF).2; omega, fun hK => by have := (HX8.out.kok _ hK).2.2; omega⟩
                case measure => simp [intOf]; omega
            · have hkiI : ¬ (k : Int) ≤ (i : Int) := by omega
              have HBT := Lib.hid (x7.boot (by omega) KA kn kc keep (HK.out.1.below hb7) HK.out.2.1 (fun hne ad hA hF => by have h1 := (HX7.out.st.lt _ hF).1; have h2 := HK.out.2.2 hne ad hA; omega) hkm)
              clear x7 hw7 ht7 hb7
              go_wp2_with fail
              refine HBT.out.mono ?_
              rintro e w8 ⟨F8, pm8, rfl, hf8, x8⟩
              have HB8 := Lib.hid (HB7.out.trans (hf8.lows HX7.out.st HX7.out.kok HX7.out.size))
              have HT8 := Lib.hid (HT7.out.frame hf8.e)
              have HX8 := Lib.hid x8
              have HOP := Lib.hid (x8.open_ (by omega) (by omega))
              clear hf8 x8 HBT
              go_wp2_with fail
              refine HOP.out.mono ?_
              rintro e w9 ⟨F9, pm9, H9, g9, A9, c9, rfl, hf9, x9, hw9, ht9, _⟩
              have hb9 := HB8.out.trans (hf9.lows HX8.out.st HX8.out.kok HX8.out.size)
              have HX9 := Lib.hid x9
              have hsm : Calls Tryd.prog 18 #[.slice A9 told.length c9, .slice AT told.length cT] w9 fun e w' => e = .returned (.bool true) ∧ Below w9.heap.size w9 w' := by
                obtain ⟨A', c', e8, h1⟩ := ht9.rows
                injection e8 with e81 _ _
                rw [← e81] at h1
                obtain ⟨A', c', e8, h2⟩ := (HT8.out.frame hf9.e).rows hb9
                injection e8 with e82 _ _
                rw [← e82] at h2
                have hj := x9.jr.sum_le.2
                have hfw := x9.jr.few.1
                have hnx := x9.jr.nxN
                refine (same_any w9 A9 AT _ c9 _ cT told told h1 h2 rfl rfl (by omega) fun tx h => (hj tx h).1).mono ?_
                rintro e w' ⟨h1, h2⟩
                exact ⟨h1.trans (by rw [decide_eq_true rfl]), h2⟩
              have HB9 := Lib.hid hb9
              have HSM := Lib.hid hsm
              clear hf9 x9 hw9 ht9 hsm hb9 HOP
              go_wp2_with fail
              refine HSM.out.mono ?_
              rintro e w10 ⟨rfl, hb10⟩
              have HX10 := Lib.hid (HX9.out.below hb10)
              have HB10 := Lib.hid (HB9.out.trans (hb10.mono HB9.out.size))
              clear hb10 HSM
              go_wp2_with fail
              go_roundw
              case rel => exact ⟨i + 1, F9, _, pm9, _, _, _, _, _, _, told, by simp, by omega, HX10.out, by omega, by omega, fun h => by omega, HB10.out⟩
              case measure => simp [intOf]; omega
          · have hkI : ¬ (k : Int) < (n0 : Int) := by omega
            have HBT := Lib.hid (x7.boot (by omega) KA kn kc keep (HK.out.1.below hb7) HK.out.2.1 (fun hne ad hA hF => by have h1 := (HX7.out.st.lt _ hF).1; have h2 := HK.out.2.2 hne ad hA; omega) hkm)
            clear x7 hw7 ht7 hb7
            go_wp2_with fail
            refine HBT.out.mono ?_
            rintro e w8 ⟨F8, pm8, rfl, hf8, x8⟩
            have HB8 := Lib.hid (HB7.out.trans (hf8.lows HX7.out.st HX7.out.kok HX7.out.size))
            have HT8 := Lib.hid (HT7.out.frame hf8.e)
            have HX8 := Lib.hid x8
            have HOP := Lib.hid (x8.open_ (by omega) (by omega))
            clear hf8 x8 HBT
            go_wp2_with fail
            refine HOP.out.mono ?_
            rintro e w9 ⟨F9, pm9, H9, g9, A9, c9, rfl, hf9, x9, hw9, ht9, _⟩
            have hb9 := HB8.out.trans (hf9.lows HX8.out.st HX8.out.kok HX8.out.size)
            have HX9 := Lib.hid x9
            have hsm : Calls Tryd.prog 18 #[.slice A9 told.length c9, .slice AT told.length cT] w9 fun e w' => e = .returned (.bool true) ∧ Below w9.heap.size w9 w' := by
              obtain ⟨A', c', e8, h1⟩ := ht9.rows
              injection e8 with e81 _ _
              rw [← e81] at h1
              obtain ⟨A', c', e8, h2⟩ := (HT8.out.frame hf9.e).rows hb9
              injection e8 with e82 _ _
              rw [← e82] at h2
              have hj := x9.jr.sum_le.2
              have hfw := x9.jr.few.1
              have hnx := x9.jr.nxN
              refine (same_any w9 A9 AT _ c9 _ cT told told h1 h2 rfl rfl (by omega) fun tx h => (hj tx h).1).mono ?_
              rintro e w' ⟨h1, h2⟩
              exact ⟨h1.trans (by rw [decide_eq_true rfl]), h2⟩
            have HB9 := Lib.hid hb9
            have HSM := Lib.hid hsm
            clear hf9 x9 hw9 ht9 hsm hb9 HOP
            go_wp2_with fail
            refine HSM.out.mono ?_
            rintro e w10 ⟨rfl, hb10⟩
            have HX10 := Lib.hid (HX9.out.below hb10)
            have HB10 := Lib.hid (HB9.out.trans (hb10.mono HB9.out.size))
            clear hb10 HSM
            go_wp2_with fail
            go_roundw
            case rel => exact ⟨i + 1, F9, _, pm9, _, _, _, _, _, _, told, by simp, by omega, HX10.out, by omega, by omega, fun h => by omega, HB10.out⟩
            case measure => simp [intOf]; omega
      · have h0I : ((i : Int) == 0) = false := by simp; omega
        have h0d : decide ((i : Int) = 0) = false := by simp; omega
        go_wp2_with fail
        have hx6 := HX5.out.below (below_al' (w := w5) (.cells #[] 42))
        have HX6 := Lib.hid hx6
        have HW6 := Lib.hid (HW5.out.below (below_al' (w := w5) (.cells #[] 42)))
        have HB6 := Lib.hid (HB5.out.trans ((below_al' (w := w5) (.cells #[] 42)).mono HB5.out.size))
        clear hx6
        generalize w5.alloc (.cells #[] 42) = w6 at *
        go_loopw [15, 16] (fun tv kv wr => AnwI W (fun k => K k ∨ k = g) a (n + 2 + 2) G2 g (i + 1) tv kv wr) (fun _ kv _ => i + 1 - (intOf kv).toNat)
        case atStart => exact ⟨0, _, _, _, _, [], rfl, by omega, HX6.out, HW6.out, ⟨[], Vec.nil_ _ _ _ _ _, fun k tx h => by simp at h⟩, Nat.le_refl _, HB6.out⟩
        case round =>
          obtain ⟨k, F7, pm7, H7, nx7, told, rfl, hk7, x7, hw7, ht7, hl7, hb7⟩ := hrel
          obtain ⟨AT, cT, rfl, _⟩ := ht7.rows hb7
          have HX7 := Lib.hid x7
          have HT7 := Lib.hid ht7
          have HB7 := Lib.hid hb7
          by_cases hkl : k < n0
          · have hkI : (k : Int) < (n0 : Int) := by omega
            have hkN : decide (k < n0) = true := decide_eq_true hkl
            by_cases hki : k ≤ i
            · have hkiI : (k : Int) ≤ (i : Int) := by omega
              obtain ⟨tx, htx⟩ : ∃ tx, l[k]? = some tx := ⟨_, List.getElem?_eq_getElem (by rw [HIN.out.2]; exact hkl)⟩
              obtain ⟨ad, BA, cb, hA0, hc, hra⟩ := HR.out k tx htx
              have hc7 : wr.cell? (ad.add k) = some (.slice BA tx.length cb) := (hb7.cell (cell_lt hc)).trans hc
              have hxin := HIN.out.1 tx (List.mem_of_getElem? htx)
              have HAP := Lib.hid (x7.append (by omega) hw7 (.inr rfl) (c := cb) (hra.below hb7) rfl hxin.1 hxin.2)
              have HRA := Lib.hid hra
              have HC := Lib.hid hc
              subst hA0
              clear x7 hw7 ht7 hb7 hc hra hxin htx
              go_wp2_with fail
              refine HAP.out.mono ?_
              rintro e w8 ⟨F8, pm8, hf8, ⟨_, rfl, x8, hw8⟩ | ⟨_, _, rfl, x8, hw8⟩ | ⟨_, rfl, H8, x8, hw8⟩⟩
              · have HB8 := Lib.hid (HB7.out.trans (hf8.lows HX7.out.st HX7.out.kok HX7.out.size))
                have HT8 := Lib.hid (HT7.out.frame hf8.e)
                have HX8 := Lib.hid x8
                have HW8 := Lib.hid hw8
                clear x8 hw8 hf8 HAP hc7
                go_wp2_with fail
                go_roundw
                case rel => exact ⟨k + 1, F8, pm8, _, _, told, by simp, by omega, HX8.out, HW8.out, HT8.out, by omega, HB8.out⟩
                case measure => simp [intOf]; omega
              · have HB8 := Lib.hid (HB7.out.trans (hf8.lows HX7.out.st HX7.out.kok HX7.out.size))
                have HT8 := Lib.hid (HT7.out.frame hf8.e)
                have HX8 := Lib.hid x8
                have HW8 := Lib.hid hw8
                clear x8 hw8 hf8 HAP hc7
                go_wp2_with fail
                go_roundw
                case rel => exact ⟨k + 1, F8, pm8, _, _, told, by simp, by omega, HX8.out, HW8.out, HT8.out, by omega, HB8.out⟩
                case measure => simp [intOf]; omega
              · have HB8 := Lib.hid (HB7.out.trans (hf8.lows HX7.out.st HX7.out.kok HX7.out.size))
                obtain ⟨vs, hv8, hvr8⟩ := HT7.out.frame hf8.e
                have HV8 := Lib.hid hv8
                have HVR8 := Lib.hid hvr8
                have HX8 := Lib.hid x8
                have HW8 := Lib.hid hw8
                have hc8 : w8.cell? (ad.add k) = some (.slice BA tx.length cb) := (HB8.out.cell (cell_lt HC.out)).trans HC.out
                clear x8 hw8 hf8 hv8 hvr8 HAP hc7
                go_wp2_with
                  (at_builtin
                   (refine wpList_append_vec rfl (.tmp 82) (.tmp 87) _ rfl 24 _ txTy rfl (HV8.out.below (below_al' _)) ⟨w8.heap.size, 0, none⟩ 1 1 [.slice BA tx.length cb] rfl rfl (blk_news (Blk.new w8 _ _)) (by intro v hv; simp at hv; subst hv; rfl) ?c1 ?c2 ?_
                    case c1 => unfold maxLen; omega
                    case c2 => omega
                    intro v9 w9 row hv9 hg9 hr9
                    obtain ⟨A9, c9, rfl⟩ := hv9.shape
                    have HM9 := Lib.hid (mods_grow (below_al' (w := w8) (.cells #[.slice BA tx.length cb] 42)) hg9 hr9)
                    have HV9 := Lib.hid hv9
                    have hs9 : w8.heap.size + 1 ≤ w9.heap.size := by have := hg9.size; simpa using this
                    have HS9 := Lib.hid hs9
                    clear hv9 hg9 hr9 hs9))
                go_roundw
                case rel =>
                  have hb9 : Below W.heap.size w8 w9 := (HM9.out.mono HB8.out.size fun _ _ h => h).below fun k hk h => by have := h.1; omega
                  refine ⟨k + 1, F8, pm8, H8, _, told ++ [tx], by simp, by omega, HX8.out.mods HM9.out fun k h => h, Blk.mods HW8.out HM9.out (Blk.lt HW8.out) (fun h => h.2.2 (.inr rfl)), ToldAt.snoc (HV9.out.mono fun q hq h => ?_) (by rw [HV8.out.len, Nat.mul_one]) HVR8.out HRA.out, by simp; omega, HB8.out.trans hb9⟩
                  rcases h with h | h
                  · exact h
                  · have h1 := h.1
                    have h2 := HB8.out.size
                    simp at h1
                    exact ⟨by omega, fun hF => by have := (HX8.out.st.lt _ hF).2; omega, fun hK => by have := (HX8.out.kok _ hK).2.2; omega⟩
                case measure => simp [intOf]; omega
            · have hkiI : ¬ (k : Int) ≤ (i : Int) := by omega
              have HBT := Lib.hid (x7.boot (by omega) KA kn kc keep (HK.out.1.below hb7) HK.out.2.1 (fun hne ad hA hF => by have h1 := (HX7.out.st.lt _ hF).1; have h2 := HK.out.2.2 hne ad hA; omega) hkm)
              clear x7 hw7 ht7 hb7
              go_wp2_with fail
              refine HBT.out.mono ?_
              rintro e w8 ⟨F8, pm8, rfl, hf8, x8⟩
              have HB8 := Lib.hid (HB7.out.trans (hf8.lows HX7.out.st HX7.out.kok HX7.out.size))
              have HT8 := Lib.hid (HT7.out.frame hf8.e)
              have HX8 := Lib.hid x8
              have HOP := Lib.hid (x8.open_ (by omega) (by omega))
              clear hf8 x8 HBT
              go_wp2_with fail
              refine HOP.out.mono ?_
              rintro e w9 ⟨F9, pm9, H9, g9, A9, c9, rfl, hf9, x9, hw9, ht9, _⟩
              have hb9 := HB8.out.trans (hf9.lows HX8.out.st HX8.out.kok HX8.out.size)
              have HX9 := Lib.hid x9
              have hsm : Calls Tryd.prog 18 #[.slice A9 told.length c9, .slice AT told.length cT] w9 fun e w' => e = .returned (.bool true) ∧ Below w9.heap.size w9 w' := by
                obtain ⟨A', c', e8, h1⟩ := ht9.rows
                injection e8 with e81 _ _
                rw [← e81] at h1
                obtain ⟨A', c', e8, h2⟩ := (HT8.out.frame hf9.e).rows hb9
                injection e8 with e82 _ _
                rw [← e82] at h2
                have hj := x9.jr.sum_le.2
                have hfw := x9.jr.few.1
                have hnx := x9.jr.nxN
                refine (same_any w9 A9 AT _ c9 _ cT told told h1 h2 rfl rfl (by omega) fun tx h => (hj tx h).1).mono ?_
                rintro e w' ⟨h1, h2⟩
                exact ⟨h1.trans (by rw [decide_eq_true rfl]), h2⟩
              have HB9 := Lib.hid hb9
              have HSM := Lib.hid hsm
              clear hf9 x9 hw9 ht9 hsm hb9 HOP
              go_wp2_with fail
              refine HSM.out.mono ?_
              rintro e w10 ⟨rfl, hb10⟩
              have HX10 := Lib.hid (HX9.out.below hb10)
              have HB10 := Lib.hid (HB9.out.trans (hb10.mono HB9.out.size))
              clear hb10 HSM
              go_wp2_with fail
              go_roundw
              case rel => exact ⟨i + 1, F9, _, pm9, _, _, _, _, _, _, told, by simp, by omega, HX10.out, by omega, by omega, fun h => by omega, HB10.out⟩
              case measure => simp [intOf]; omega
          · have hkI : ¬ (k : Int) < (n0 : Int) := by omega
            have HBT := Lib.hid (x7.boot (by omega) KA kn kc keep (HK.out.1.below hb7) HK.out.2.1 (fun hne ad hA hF => by have h1 := (HX7.out.st.lt _ hF).1; have h2 := HK.out.2.2 hne ad hA; omega) hkm)
            clear x7 hw7 ht7 hb7
            go_wp2_with fail
            refine HBT.out.mono ?_
            rintro e w8 ⟨F8, pm8, rfl, hf8, x8⟩
            have HB8 := Lib.hid (HB7.out.trans (hf8.lows HX7.out.st HX7.out.kok HX7.out.size))
            have HT8 := Lib.hid (HT7.out.frame hf8.e)
            have HX8 := Lib.hid x8
            have HOP := Lib.hid (x8.open_ (by omega) (by omega))
            clear hf8 x8 HBT
            go_wp2_with fail
            refine HOP.out.mono ?_
            rintro e w9 ⟨F9, pm9, H9, g9, A9, c9, rfl, hf9, x9, hw9, ht9, _⟩
            have hb9 := HB8.out.trans (hf9.lows HX8.out.st HX8.out.kok HX8.out.size)
            have HX9 := Lib.hid x9
            have hsm : Calls Tryd.prog 18 #[.slice A9 told.length c9, .slice AT told.length cT] w9 fun e w' => e = .returned (.bool true) ∧ Below w9.heap.size w9 w' := by
              obtain ⟨A', c', e8, h1⟩ := ht9.rows
              injection e8 with e81 _ _
              rw [← e81] at h1
              obtain ⟨A', c', e8, h2⟩ := (HT8.out.frame hf9.e).rows hb9
              injection e8 with e82 _ _
              rw [← e82] at h2
              have hj := x9.jr.sum_le.2
              have hfw := x9.jr.few.1
              have hnx := x9.jr.nxN
              refine (same_any w9 A9 AT _ c9 _ cT told told h1 h2 rfl rfl (by omega) fun tx h => (hj tx h).1).mono ?_
              rintro e w' ⟨h1, h2⟩
              exact ⟨h1.trans (by rw [decide_eq_true rfl]), h2⟩
            have HB9 := Lib.hid hb9
            have HSM := Lib.hid hsm
            clear hf9 x9 hw9 ht9 hsm hb9 HOP
            go_wp2_with fail
            refine HSM.out.mono ?_
            rintro e w10 ⟨rfl, hb10⟩
            have HX10 := Lib.hid (HX9.out.below hb10)
            have HB10 := Lib.hid (HB9.out.trans (hb10.mono HB9.out.size))
            clear hb10 HSM
            go_wp2_with fail
            go_roundw
            case rel => exact ⟨i + 1, F9, _, pm9, _, _, _, _, _, _, told, by simp, by omega, HX10.out, by omega, by omega, fun h => by omega, HB10.out⟩
            case measure => simp [intOf]; omega
    · obtain rfl : r = i := by omega
      go_wp2_with fail
      refine HWH.out.mono ?_
      rintro e _ ⟨rfl, rfl⟩
      go_wp2_with fail
      go_ret
      exact ⟨rfl, HBW.out⟩
end Go.Proofs.YtlnfeehokpkgiaaDoor.Wal
