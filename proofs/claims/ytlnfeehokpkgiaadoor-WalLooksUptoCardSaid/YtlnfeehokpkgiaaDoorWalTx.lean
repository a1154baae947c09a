/- The journal's 'encode': a transaction's bytes. -/
import Derived.Test.YtlnfeehokpkgiaaDoorWalFormat
namespace Go.Proofs.YtlnfeehokpkgiaaDoor.Wal
open Go Go.RowKit Mem Pl Disk Crc _root_.Go.Proofs.YtlnfeehokpkgiaaDoor.Frame
def encP (tx : Tx) (i : Nat) : List UInt8 := UInt8.ofNat tx.length :: (tx.take i).flatMap fun r => beB r.length 2 ++ r
theorem encP_next {tx : Tx} {i : Nat} {r : List UInt8} (h : tx[i]? = some r) : encP tx (i + 1) = encP tx i ++ beB r.length 2 ++ r := by
  unfold encP
  rw [List.take_add_one, h, List.flatMap_append]
  simp
theorem encP_all (tx : Tx) : encP tx tx.length = encM tx := by unfold encP encM; rw [List.take_length]
theorem encP_len (tx : Tx) (i : Nat) (hi : i ≤ tx.length) : (encP tx i).length = 1 + 2 * i + totM (tx.take i) := by
  have h := encM_len (tx.take i)
  unfold encM at h
  unfold encP
  rw [List.length_cons] at h ⊢
  rw [List.length_take, Nat.min_eq_left hi] at h
  exact h
def EncR (w : World) (tx : Tx) (bv iv : Value) (wr : World) : Prop :=
  ∃ (i : Nat) (A : Option Addr) (n c : Nat), i ≤ tx.length ∧ iv = .int .i64 (i : Int) ∧ bv = .slice A n c ∧ Own wr w.heap.size 5 A n c (encP tx i) ∧ Below w.heap.size w wr
set_option maxRecDepth 100000 in
set_option maxHeartbeats 2000000 in
theorem encode_any (w : World) (A : Option Addr) (n c : Nat) (tx : Tx) (h : RowsAt w A tx) (hl : tx.length = n) (hlong : longM tx = false) :
    Calls Tryd.prog 40 #[.slice A n c] w fun e w' => ∃ A' n' c', e = .returned (.slice A' n' c') ∧ Own w' w.heap.size 5 A' n' c' (encM tx) ∧ Below w.heap.size w w' := by
  have hlg := hlong
  unfold longM at hlg
  simp at hlg
  obtain ⟨hn16, htot⟩ := hlg
  rw [hl] at hn16
  have H := Lib.hid h
  have HL := Lib.hid hl
  have htots := fun i => tot_le tx i
  have HTT := Lib.hid htots
  have hwb : IntKind.u8.wrap (n : Int) = (n : Int) := by rw [IntKind.wrap_u8]; omega
  have hvb : V8 (UInt8.ofNat n) = (n : Int) := by rw [V8_ofNat]; omega
  have HO1 : Hid (Own (w.alloc (.cells #[.int .u8 (n : Int)] 5)) w.heap.size 5 (some ⟨w.heap.size, 0, none⟩) 1 1 (encP tx 0)) := Lib.hid (Own.new w _ _ rfl (Nat.le_refl _) (by unfold encP; rw [hl]; simp [B8, hvb]) (by unfold encP; simp) (by decide))
  clear h hl hlong hvb htots
  go_enter Tryd.func40, Tryd.ntmps40
  go_wp2_with fail
  go_loopw [3, 12] (fun bv iv wr => EncR w tx bv iv wr) (fun _ iv _ => n - (intOf iv).toNat)
  case atStart => exact ⟨0, _, 1, 1, by omega, rfl, rfl, HO1.out, below_al' _⟩
  case round =>
    obtain ⟨i, A1, n1, c1, hi, rfl, rfl, ho, hbw⟩ := hrel
    have HO := Lib.hid ho
    have HBW := Lib.hid hbw
    have hn1 : n1 ≤ 2000 := by have h1 := ho.len; rw [encP_len tx i hi] at h1; have := HTT.out i; have := HL.out; omega
    clear ho hbw HO1
    by_cases hlt : i < n
    · have hiI : (i : Int) < (n : Int) := by omega
      obtain ⟨r, hr⟩ : ∃ r, tx[i]? = some r := ⟨_, List.getElem?_eq_getElem (by rw [HL.out]; exact hlt)⟩
      obtain ⟨ad, B, cb, rfl, hc, hbat⟩ := (H.out.below HBW.out) i r hr
      have HBT := Lib.hid hbat
      have hrl : r.length ≤ 1024 := by have h1 := tot_take hr; have := HTT.out (i + 1); omega
      have hwr : IntKind.u64.wrap (r.length : Int) = (r.length : Int) := by rw [IntKind.wrap_u64]; omega
      have HNX := Lib.hid (encP_next hr)
      have HNB := Lib.hid (number_yes A1 (encP tx i) n1 c1 r.length 2 wr HO.out.len (by omega) HO.out.bat (by omega) (by omega) (by omega))
      clear hbat hr
      go_wp2_with fail
      refine HNB.out.mono ?_
      rintro e w2 ⟨A2, n2, c2, rfl, ho2, hb2⟩
      have hn2 : n2 = n1 + 2 := by have h1 := ho2.len; rw [List.length_append, beB_length, HO.out.len] at h1; omega
      subst hn2
      have HO2 := Lib.hid (ho2.mono HBW.out.size)
      have HB2 := Lib.hid (HBW.out.trans (hb2.mono HBW.out.size))
      have HBT2 := Lib.hid (HBT.out.below hb2)
      clear ho2 hb2 HNB hc
      go_wp2_with
        (at_builtin
         refine wpList_append_bytes rfl (.tmp 20) (.tmp 21) _ rfl w.heap.size _ Pl.byteTy A2 (n1 + 2) c2 _ rfl HO2.out B r.length cb r rfl HBT2.out rfl (n1 + 2 + r.length) rfl (by omega) HB2.out.size ?_
         intro A3 c3 w3 ho3 hg3 hb3 hA3
         have HO3 := Lib.hid ho3
         have HB3 := Lib.hid (HB2.out.trans hb3)
         clear ho3 hg3 hb3 hA3)
      go_roundw
      case rel => exact ⟨i + 1, A3, _, c3, by rw [HL.out]; omega, by simp, rfl, by rw [HNX.out]; exact HO3.out, HB3.out⟩
      case measure => simp [intOf]; omega
    · obtain rfl : i = n := by have := HL.out; omega
      go_wp2_with fail
      go_ret
      refine ⟨A1, n1, c1, rfl, ?_, HBW.out⟩
      have h1 := HO.out
      rw [← HL.out, encP_all] at h1
      exact h1
/-- Bytes behind a slice; they lie in blocks of J. -/
def ByJ (w : World) (J : Nat → Prop) (b : List UInt8) (v : Value) : Prop := Vec w J 5 1 v b.length (b.map B8)
def RowsJ (w : World) (J : Nat → Prop) (l : List (List UInt8)) (vs : List Value) : Prop := ∀ (k : Nat) (b : List UInt8), l[k]? = some b → ∃ v, vs[k]? = some v ∧ ByJ w J b v
/-- A transaction in memory; it lies in blocks of J. -/
def TxAt (w : World) (J : Nat → Prop) (tx : Tx) (v : Value) : Prop := ∃ vs, Vec w J 32 1 v tx.length vs ∧ RowsJ w J tx vs
section
variable {w w' : World} {J J' F : Nat → Prop}
theorem ByJ.bat {b : List UInt8} {v : Value} (h : ByJ w J b v) : ∃ A c, v = .slice A b.length c ∧ BAt w A b := by
  have h' : Vec w J 5 1 v b.length (b.map B8) := h
  obtain ⟨A, c, rfl⟩ := h'.shape
  refine ⟨A, c, rfl, fun h0 => ?_⟩
  obtain ⟨g, _, _, e, _⟩ := h'.form h0
  injection e with e
  subst e
  refine ⟨_, rfl, fun k hk => ?_⟩
  have := h'.at_ (k := k) (u := B8 (b.getD k 0)) (by simp [hk])
  rw [add_off]
  simpa [B8] using this
theorem RowsJ.mods {B : Nat} {l : List (List UInt8)} {vs : List Value} (x : RowsJ w J l vs) (hm : Mods B F w w') (hn : ∀ g, g < w.heap.size → J g → g < B ∧ ¬ F g) : RowsJ w' J l vs :=
  fun k b hb => (x k b hb).imp fun _v h => ⟨h.1, Vec.mods h.2 hm hn⟩
theorem RowsJ.mono {l : List (List UInt8)} {vs : List Value} (x : RowsJ w J l vs) (hF : ∀ g, g < w.heap.size → J g → J' g) : RowsJ w J' l vs :=
  fun k b hb => (x k b hb).imp fun _v h => ⟨h.1, Vec.mono h.2 hF⟩
theorem RowsJ.below {l : List (List UInt8)} {vs : List Value} (x : RowsJ w J l vs) (hb : Below w.heap.size w w') : RowsJ w' J l vs :=
  fun k b hb' => (x k b hb').imp fun _v h => ⟨h.1, Vec.below h.2 hb⟩
theorem TxAt.mods {B : Nat} {tx : Tx} {v : Value} (x : TxAt w J tx v) (hm : Mods B F w w') (hn : ∀ g, g < w.heap.size → J g → g < B ∧ ¬ F g) : TxAt w' J tx v := by
  obtain ⟨vs, h1, h2⟩ := x
  exact ⟨vs, h1.mods hm hn, h2.mods hm hn⟩
theorem TxAt.mono {tx : Tx} {v : Value} (x : TxAt w J tx v) (hF : ∀ g, g < w.heap.size → J g → J' g) : TxAt w J' tx v := by
  obtain ⟨vs, h1, h2⟩ := x
  exact ⟨vs, h1.mono hF, h2.mono hF⟩
theorem TxAt.below {tx : Tx} {v : Value} (x : TxAt w J tx v) (hb : Below w.heap.size w w') : TxAt w' J tx v := by
  obtain ⟨vs, h1, h2⟩ := x
  exact ⟨vs, h1.below hb, h2.below hb⟩
theorem TxAt.rows {tx : Tx} {v : Value} (x : TxAt w J tx v) : ∃ A c, v = .slice A tx.length c ∧ RowsAt w A tx := by
  obtain ⟨vs, h1, h2⟩ := x
  obtain ⟨A, c, rfl⟩ := h1.shape
  refine ⟨A, c, rfl, fun i b hb => ?_⟩
  obtain ⟨v, hv, hby⟩ := h2 i b hb
  obtain ⟨B, cb, rfl, hbat⟩ := hby.bat
  obtain ⟨g, rfl, hc⟩ := h1.cell i _ hv
  refine ⟨_, B, cb, rfl, ?_, hbat⟩
  rw [add_off]
  simpa using hc
end
end Go.Proofs.YtlnfeehokpkgiaaDoor.Wal
