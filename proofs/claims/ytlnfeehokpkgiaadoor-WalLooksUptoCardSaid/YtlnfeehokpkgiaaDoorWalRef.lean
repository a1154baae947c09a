/- The document's words for the journal: 'Bytes', 'Long', 'Cost'; the law's 'sum'. -/
import Derived.Test.YtlnfeehokpkgiaaDoorWalApd
namespace Go.Proofs.YtlnfeehokpkgiaaDoor.Wal
open Go Go.RowKit Mem Pl Disk Crc _root_.Go.Proofs.YtlnfeehokpkgiaaDoor.Frame
set_option maxRecDepth 100000 in
theorem bytes_any (w : World) (A : Option Addr) (n c : Nat) (l : Tx) (h : RowsAt w A l) (hl : l.length = n) (hn : n ≤ 1000000000) (ht : totM l ≤ 1000000000000000) :
    Calls Tryd.prog 54 #[.slice A n c] w fun e w' => e = .returned (.int .i64 (totM l : Int)) ∧ w = w' := by
  have H := Lib.hid h
  have HL := Lib.hid hl
  obtain ⟨t, htt⟩ : ∃ t, totM l = t := ⟨_, rfl⟩
  have HTT := Lib.hid htt
  rw [htt] at ht ⊢
  clear h hl htt
  go_enter Tryd.func54, Tryd.ntmps54
  go_wp2_with fail
  go_loopw [3, 4] (fun nv iv wr => LongR w l nv iv wr) (fun _ iv _ => n - (intOf iv).toNat)
  case atStart => exact ⟨0, by omega, rfl, rfl, rfl⟩
  case round =>
    obtain ⟨i, hi, rfl, rfl, rfl⟩ := hrel
    have hti := tot_le l i
    by_cases hlt : i < n
    · have hiI : (i : Int) < (n : Int) := by omega
      obtain ⟨b, hb⟩ : ∃ b, l[i]? = some b := ⟨_, List.getElem?_eq_getElem (by rw [HL.out]; exact hlt)⟩
      obtain ⟨ad, B, cb, rfl, hc, _⟩ := H.out i b hb
      have hn2 := tot_take hb
      have hti2 := tot_le l (i + 1)
      have HN := Lib.hid hn2
      rw [HTT.out] at hti hti2
      have hbl : b.length ≤ 1000000000000000 := by omega
      obtain ⟨q, htt⟩ : ∃ q, totM (l.take i) = q := ⟨_, rfl⟩
      rw [htt] at HN hti ⊢
      clear hb hn2 hti2 htt
      go_wp2_with fail
      go_roundw
      case rel => exact ⟨i + 1, by rw [HL.out]; omega, by simp, by rw [HN.out]; simp, rfl⟩
      case measure => simp [intOf]; omega
    · obtain rfl : i = n := by have := HL.out; omega
      have e : l.take i = l := by rw [← HL.out]; simp
      rw [e]
      rw [HTT.out]
      clear e hti
      go_wp2_with fail
      go_ret
      exact ⟨rfl, rfl⟩
set_option maxRecDepth 100000 in
theorem rlong_any (w : World) (A : Option Addr) (n c : Nat) (l : Tx) (h : RowsAt w A l) (hl : l.length = n) (hn : n ≤ 1000000000) (ht : totM l ≤ 1000000000000000) :
    Calls Tryd.prog 28 #[.slice A n c] w fun e w' => e = .returned (.bool (longM l)) ∧ w = w' := by
  have HBY := Lib.hid (bytes_any w A n c l h hl hn ht)
  obtain ⟨t, htt⟩ : ∃ t, totM l = t := ⟨_, rfl⟩
  have HLM : longM l = (decide (16 < n) || decide (1024 < t)) := by unfold longM; rw [hl, htt]
  rw [HLM]
  rw [htt] at HBY
  clear h hl htt HLM ht
  by_cases h16 : 16 < n
  · have h16I : (16 : Int) < (n : Int) := by omega
    go_enter Tryd.func28, Tryd.ntmps28
    go_wp2_with fail
    go_ret
    exact ⟨by simp [h16], rfl⟩
  · have h16I : ¬ (16 : Int) < (n : Int) := by omega
    go_enter Tryd.func28, Tryd.ntmps28
    go_wp2_with fail
    refine HBY.out.mono ?_
    rintro e _ ⟨rfl, rfl⟩
    go_wp2_with fail
    go_ret
    exact ⟨by simp [h16]; omega, rfl⟩
/-- What a transaction costs. -/
def costM (l : Tx) : Nat := 1 + (totM l + 2 * l.length) / 32
theorem cost_any (w : World) (A : Option Addr) (n c : Nat) (l : Tx) (h : RowsAt w A l) (hl : l.length = n) (hn : n ≤ 1000000000) (ht : totM l ≤ 1000000000000000) :
    Calls Tryd.prog 52 #[.slice A n c] w fun e w' => e = .returned (.int .i64 (costM l : Int)) ∧ w = w' := by
  have HBY := Lib.hid (bytes_any w A n c l h hl hn ht)
  obtain ⟨t, htt⟩ : ∃ t, totM l = t := ⟨_, rfl⟩
  obtain ⟨q, hq⟩ : ∃ q, (t + 2 * n) / 32 = q := ⟨_, rfl⟩
  have HLM : costM l = 1 + q := by unfold costM; rw [hl, htt, hq]
  rw [HLM]
  rw [htt] at HBY ht
  have w1 : IntKind.i64.wrap (2 * (n : Int)) = 2 * (n : Int) := IntWalk.i64_in _ (by omega)
  have w2 : IntKind.i64.wrap ((t : Int) + 2 * (n : Int)) = (t : Int) + 2 * (n : Int) := IntWalk.i64_in _ (by omega)
  have hd : ((t : Int) + 2 * (n : Int)).tdiv 32 = (q : Int) := by rw [Int.tdiv_eq_ediv_of_nonneg (by omega)]; omega
  have hql : q ≤ 1000000000000000 := by omega
  have w3 : IntKind.i64.wrap (1 + (q : Int)) = 1 + (q : Int) := IntWalk.i64_in _ (by omega)
  have w4 : IntKind.i64.wrap (q : Int) = (q : Int) := IntWalk.i64_in _ (by omega)
  clear h hl htt HLM hq
  go_enter Tryd.func52, Tryd.ntmps52
  go_wp2_with fail
  refine HBY.out.mono ?_
  rintro e _ ⟨rfl, rfl⟩
  go_wp2_with fail
  go_ret
  exact ⟨by simp, rfl⟩
end Go.Proofs.YtlnfeehokpkgiaaDoor.Wal
