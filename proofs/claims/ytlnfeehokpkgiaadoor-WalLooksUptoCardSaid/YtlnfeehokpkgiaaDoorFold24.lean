/- The law's 'which', 'sum' and 'made'. -/
import Derived.Test.YtlnfeehokpkgiaaDoorWalSame
import Derived.Test.YtlnfeehokpkgiaaDoorPlNew
namespace Go.Proofs.YtlnfeehokpkgiaaDoor.Wal
open Go Go.RowKit Mem Pl Disk Crc _root_.Go.Proofs.YtlnfeehokpkgiaaDoor.Frame
/-- An integer of the machine. -/
def inI (c : Int) : Prop := -9223372036854775808 ≤ c ∧ c < 9223372036854775808
/-- Which of so many things. -/
def whichM (c : Int) (n : Nat) : Nat := ((if c < 0 then -(c + 1) else c) % (n : Int)).toNat
theorem whichM_lt (c : Int) {n : Nat} (h : 0 < n) : whichM c n < n := by
  unfold whichM
  have := Int.emod_nonneg (if c < 0 then -(c + 1) else c) (show (n : Int) ≠ 0 by omega)
  have := Int.emod_lt_of_pos (if c < 0 then -(c + 1) else c) (show (0 : Int) < n by omega)
  omega
theorem which_any (w : World) (c : Int) (n : Nat) (hn : 0 < n) (hn2 : n ≤ 1000000000) (hc : inI c) : Calls Tryd.prog 11 #[.int .i64 c, .int .i64 (n : Int)] w fun e w' => e = .returned (.int .i64 (whichM c n : Int)) ∧ w = w' := by
  obtain ⟨h1, h2⟩ := hc
  have hnz : ¬ (n : Int) = 0 := by omega
  have hnb : ((n : Int) == 0) = false := by rw [beq_eq_false_iff_ne]; exact hnz
  by_cases hneg : c < 0
  · have hw1 : IntKind.i64.wrap (c + 1) = c + 1 := IntWalk.i64_in _ (by omega)
    have hw2 : IntKind.i64.wrap (-(c + 1)) = -(c + 1) := IntWalk.i64_in _ (by omega)
    have ht : (-(c + 1)).tmod (n : Int) = (whichM c n : Int) := by
      rw [Int.tmod_eq_emod_of_nonneg (by omega)]
      unfold whichM
      rw [if_pos hneg, Int.toNat_of_nonneg (Int.emod_nonneg _ hnz)]
    have hlt : (whichM c n : Int) < 9223372036854775808 := by have := whichM_lt c hn; omega
    have hw3 : IntKind.i64.wrap (whichM c n : Int) = (whichM c n : Int) := IntWalk.i64_in _ (by omega)
    generalize whichM c n = r at *
    go_enter Tryd.func11, Tryd.ntmps11
    go_wp2_with fail
    go_ret
    exact ⟨rfl, rfl⟩
  · have ht : c.tmod (n : Int) = (whichM c n : Int) := by
      rw [Int.tmod_eq_emod_of_nonneg (by omega)]
      unfold whichM
      rw [if_neg hneg, Int.toNat_of_nonneg (Int.emod_nonneg _ hnz)]
    have hlt : (whichM c n : Int) < 9223372036854775808 := by have := whichM_lt c hn; omega
    have hw3 : IntKind.i64.wrap (whichM c n : Int) = (whichM c n : Int) := IntWalk.i64_in _ (by omega)
    generalize whichM c n = r at *
    go_enter Tryd.func11, Tryd.ntmps11
    go_wp2_with fail
    go_ret
    exact ⟨rfl, rfl⟩
theorem iat_row (w : World) (zs : List Int) (k : Nat) (hk : w.heap.size = k) (t : TypeId) : IAt (w.alloc (.cells (zs.map intV).toArray t)) (some ⟨k, 0, none⟩) zs := by
  subst hk
  refine .inr ⟨_, rfl, fun i z hz => ?_⟩
  have := (Blk.new w t (zs.map intV).toArray).cell i
  have e : (Addr.add ⟨w.heap.size, 0, none⟩ i) = ⟨w.heap.size, i, none⟩ := by
    unfold Addr.add
    split
    · rename_i h; subst h; rfl
    · simp
  rw [e, this]
  simp [hz, intV]

theorem sumM_take {txs : List Tx} {i : Nat} {x : Tx} (h : txs[i]? = some x) : sumM (txs.take (i + 1)) = sumM (txs.take i) + costM x := by
  unfold sumM
  rw [List.take_add_one, h]
  simp
theorem sumM_le (txs : List Tx) (i : Nat) : sumM (txs.take i) ≤ sumM txs := by
  unfold sumM
  conv => rhs; rw [← List.take_append_drop i txs, List.map_append, List.sum_append]
  omega
set_option maxRecDepth 100000 in
theorem sums_any (w : World) (A : Option Addr) (n c : Nat) (txs : List Tx) (h : TxRows w A txs) (hl : txs.length = n) (hn : n ≤ 1000000000) (hin : ∀ tx ∈ txs, tx.length ≤ 1000000000 ∧ totM tx ≤ 1000000000000000) (hs : sumM txs ≤ 1000000000) :
    Calls Tryd.prog 51 #[.slice A n c] w fun e w' => e = .returned (.int .i64 (sumM txs : Int)) ∧ w = w' := by
  have H := Lib.hid h
  have HL := Lib.hid hl
  have HIN := Lib.hid hin
  clear h hl hin
  go_enter Tryd.func51, Tryd.ntmps51
  go_wp2_with fail
  go_loopw [3, 4] (fun sv iv wr => ∃ i : Nat, i ≤ n ∧ sv = .int .i64 (sumM (txs.take i) : Int) ∧ iv = .int .i64 (i : Int) ∧ wr = w) (fun _ iv _ => n - (intOf iv).toNat)
  case atStart => exact ⟨0, by omega, rfl, rfl, rfl⟩
  case round =>
    obtain ⟨i, hi, rfl, rfl, rfl⟩ := hrel
    by_cases hlt : i < n
    · have hiI : (i : Int) < (n : Int) := by omega
      obtain ⟨x, hx⟩ : ∃ b, txs[i]? = some b := ⟨_, List.getElem?_eq_getElem (by rw [HL.out]; exact hlt)⟩
      obtain ⟨ad, B, cb, rfl, hc, hr⟩ := H.out i x hx
      have hix := HIN.out x (List.mem_of_getElem? hx)
      have HN := Lib.hid (sumM_take hx)
      have hle := sumM_le txs (i + 1)
      rw [HN.out] at hle
      have HCO := Lib.hid (cost_any wr B x.length cb x hr rfl hix.1 hix.2)
      obtain ⟨q, hq⟩ : ∃ q, sumM (txs.take i) = q := ⟨_, rfl⟩
      obtain ⟨r, hr2⟩ : ∃ r, costM x = r := ⟨_, rfl⟩
      rw [hq, hr2] at HN hle
      rw [hr2] at HCO
      rw [hq]
      have hwq : IntKind.i64.wrap ((q : Int) + (r : Int)) = (q : Int) + (r : Int) := IntWalk.i64_in _ (by omega)
      clear hx hr hix hq hr2
      go_wp2_with fail
      refine HCO.out.mono ?_
      rintro e _ ⟨rfl, rfl⟩
      go_wp2_with fail
      go_roundw
      case rel => exact ⟨i + 1, by omega, by rw [HN.out]; simp, by simp, trivial⟩
      case measure => simp [intOf]; omega
    · obtain rfl : n = i := by omega
      have e : txs.take n = txs := by rw [← HL.out]; simp
      rw [e]
      clear e
      go_wp2_with fail
      go_ret
      exact ⟨rfl, rfl⟩
end Go.Proofs.YtlnfeehokpkgiaaDoor.Wal
/- The law's 'made': a plant of some disks of n sectors. -/
namespace Go.Proofs.YtlnfeehokpkgiaaDoor.Wal
open Go Go.RowKit Mem Pl Disk Crc _root_.Go.Proofs.YtlnfeehokpkgiaaDoor.Frame
def walPM (k n : Nat) : PM := { disks := List.replicate k n, tapes := [], devs := newDevs (List.replicate k n) [], waits := [], off := false, fuse := none, steps := 0, now := 0 }
theorem walPM_new {k n : Nat} (hk : 1 ≤ k) (hk2 : k ≤ 8) (h1 : 1 ≤ n) (h2 : n ≤ 4096) : newM (List.replicate k (n : Int)) [] = some (walPM k n) := by
  have a1 : ¬ ((n : Int) < 1) := by omega
  have a2 : ¬ (4096 < (n : Int)) := by omega
  have a3 : ¬ (k = 0 ∨ 12 < k) := by omega
  unfold newM walPM
  rw [if_neg]
  · simp
  · simp
    omega
theorem walPM_disk (k n i : Nat) (hi : i < k) : Disk (walPM k n) i n (List.replicate n zeros) [] := by
  refine ⟨?_, rfl⟩
  unfold walPM newDevs
  simp [hi]
set_option maxRecDepth 100000 in
theorem made_any (w : World) (k n : Nat) (hk : 1 ≤ k) (hk2 : k ≤ 8) (h1 : 1 ≤ n) (h2 : n ≤ 4096) : Calls Tryd.prog 19 #[.int .i64 (k : Int), .int .i64 (n : Int)] w fun e w' =>
    ∃ a, e = .returned (.pointer (some ⟨a, 0, none⟩)) ∧ PlantAt w' (New w w') a (walPM k n) ∧ Below w.heap.size w w' := by
  have hb0 := below_al' (w := w) (.cells #[.slice none 0 0, .slice none 0 0] 31)
  have hk0 := Blk.new w 31 #[.slice none 0 0, .slice none 0 0]
  have HB0 := Lib.hid hb0
  have HK0 := Lib.hid hk0
  clear hb0 hk0
  go_enter Tryd.func19, Tryd.ntmps19
  go_wp2_with fail
  go_loopw [6] (fun iv wr => ∃ (i : Nat) (A : Option Addr) (c : Nat), i ≤ k ∧ iv = .int .i64 (i : Int) ∧ OwnG wr (w.heap.size + 1) 3 1 A i c (List.replicate i (.int .i64 (n : Int))) ∧ Blk wr w.heap.size 31 #[.slice A i c, .slice none 0 0] ∧ Below w.heap.size w wr ∧ w.heap.size + 1 ≤ wr.heap.size) (fun iv _ => k - (intOf iv).toNat)
  case atStart => exact ⟨0, none, 0, by omega, rfl, OwnG.nil_ _ _ _ _, HK0.out, HB0.out, by simp⟩
  case round =>
    obtain ⟨i, A, c, hi, rfl, ho, hbk, hbw, hsz⟩ := hrel
    have HO := Lib.hid ho
    have HBK := Lib.hid hbk
    have HBW := Lib.hid hbw
    have HSZ := Lib.hid hsz
    have c0 : wr.cell? ⟨w.heap.size, 0, none⟩ = some (.slice A i c) := by rw [hbk.cell]; rfl
    clear ho hbw hsz
    by_cases hlt : i < k
    · have hiI : (i : Int) < (k : Int) := by omega
      clear hbk
      go_wp2_with
        (at_builtin
         (refine wpList_append_g rfl (.tmp 16) (.tmp 18) _ rfl (w.heap.size + 1) _ 1 8 _ i64Ty A i c _ rfl (HO.out.alloc _) ⟨wr.heap.size, 0, none⟩ 1 1 [.int .i64 (n : Int)] rfl rfl (blk_news (Blk.new wr _ _)) (by intro v hv; simp at hv; subst hv; rfl) ?c1 ?c2 ?c3 ?_
          case c1 => unfold maxLen; omega
          case c2 => omega
          case c3 => have := HSZ.out; simp; omega
          intro A3 c3 w3 ho3 hg3 hb3 hA3
          have hba := below_al' (w := wr) (.cells #[.int .i64 (n : Int)] 3)
          have hb03 : Below (w.heap.size + 1) wr w3 := (hba.mono HSZ.out).trans hb3
          have hk3 : Blk w3 w.heap.size 31 #[.slice A i c, .slice none 0 0] := HBK.out.below hb03 (by omega)
          have z0 : w3.cell? ⟨w.heap.size, 0, none⟩ = some (.slice A i c) := by rw [hk3.cell]; rfl
          have zf := hk3.frozen 0
          have HK3 := Lib.hid (hk3.set_ 0 (.slice A3 (i + 1) c3))
          have HO3 : Hid (OwnG (w3.setCell ⟨w.heap.size, 0, none⟩ (.slice A3 (i + 1) c3)) (w.heap.size + 1) 3 1 A3 (i + 1) c3 (List.replicate i (.int .i64 (n : Int)) ++ [.int .i64 (n : Int)])) := Lib.hid (ho3.kept (grownBy_setCell w3 ⟨w.heap.size, 0, none⟩ _ _ rfl) (.inr (ho3.ne_lt (by simp))))
          have HB3 := Lib.hid ((HBW.out.trans (hb03.mono (Nat.le_succ _))).setCell (p := ⟨w.heap.size, 0, none⟩) (Nat.le_refl _) (.slice A3 (i + 1) c3))
          have HS3 : Hid (w.heap.size + 1 ≤ (w3.setCell ⟨w.heap.size, 0, none⟩ (.slice A3 (i + 1) c3)).heap.size) := Lib.hid (by
            have h1 := HSZ.out
            have h2 := hb03.size
            simp
            omega)
          clear ho3 hg3 hb3 hA3 hba hb03 hk3))
      go_roundw
      case rel => exact ⟨i + 1, A3, c3, by omega, by simp, by rw [List.replicate_succ']; exact HO3.out, HK3.out, HB3.out, HS3.out⟩
      case measure => simp [intOf]; omega
    · obtain rfl : k = i := by omega
      have c1 : wr.cell? ⟨w.heap.size, 1, none⟩ = some (.slice none 0 0) := by rw [hbk.cell]; rfl
      have hia : IAt wr A (List.replicate k (n : Int)) := by
        obtain ⟨g, rfl, _⟩ := HO.out.cell 0 (.int .i64 (n : Int)) (by rw [List.getElem?_replicate, if_pos (by omega)])
        refine .inr ⟨_, rfl, fun j z hz => ?_⟩
        obtain ⟨g', e, hc⟩ := HO.out.cell j (.int .i64 z) (by
          rw [List.getElem?_replicate] at hz ⊢
          split at hz
          · rename_i h
            rw [if_pos h, Option.some.inj hz]
          · cases hz)
        cases e
        rw [add_off]
        simpa using hc
      have hn := new_any wr A none k 0 c 0 (List.replicate k (n : Int)) [] hia (.inl rfl) (by simp) rfl (by omega) (by omega)
      rw [walPM_new hk hk2 h1 h2] at hn
      have HN := Lib.hid hn
      clear hn hia hbk
      go_wp2_with fail
      refine HN.out.mono ?_
      rintro e w1 ⟨hb1, ⟨h, _⟩ | ⟨a, p, h, rfl, hp⟩⟩
      · cases h
      injection h with h
      subst h
      have HB1 := Lib.hid (HBW.out.trans (hb1.mono HBW.out.size))
      have HP : Hid (PlantAt w1 (New w w1) a (walPM k n)) := Lib.hid (hp.mono fun g _ hg => ⟨Nat.le_trans HBW.out.size hg.1, hg.2⟩)
      clear hb1 hp HN
      go_wp2_with fail
      go_ret
      exact ⟨a, rfl, HP.out, HB1.out⟩
end Go.Proofs.YtlnfeehokpkgiaaDoor.Wal
/- 'Open' of a disk that holds a journal. -/
namespace Go.Proofs.YtlnfeehokpkgiaaDoor.Wal
open Go Go.RowKit Mem Pl Disk Crc _root_.Go.Proofs.YtlnfeehokpkgiaaDoor.Frame
theorem virt_nil (H : List (List UInt8)) : virt H [] = secs H := by
  funext k
  simp [virt, secs, lastAt]
/-- What 'Open' leaves of a journal. -/
def OpenJ (B : Nat) (w : World) (F : Nat → Prop) (a : Nat) (pm : PM) (n dev N : Nat) (H : List (List UInt8)) (G E nx : Nat) (txs : List Tx) (e : Ending) (w' : World) : Prop :=
  ∃ (F' : Nat → Prop) (pm' : PM), Frm B w F a pm (n + 2) dev F' pm' w' ∧
    ((∃ g v, e = .returned (.tuple #[.pointer (some ⟨g, 0, none⟩), v, .int .i64 0]) ∧ Disk pm' dev N (H.set ((G + 1) % 2) (hdrB (G + 1) E)) [] ∧ pm'.off = false ∧ w.heap.size ≤ g ∧ ¬ F' g ∧ WalB w' g a dev N ⟨G + 1, E, nx, txs.length + 1⟩ ∧
        TxsAt w' (fun k => w.heap.size ≤ k ∧ ¬ F' k ∧ k ≠ g) txs v) ∨
     (e = .returned (.tuple #[.pointer none, .slice none 0 0, .int .i64 2]) ∧ pm.fuse ≠ none ∧ pm'.off = true ∧ (Disk pm' dev N H [] ∨ Disk pm' dev N H [((G + 1) % 2, hdrB (G + 1) E)])))
theorem open_jr {B : Nat} {w : World} {F : Nat → Prop} {a : Nat} {pm : PM} {n dev N : Nat} {H : List (List UInt8)} {G E S nx : Nat} {txs : List Tx} (hst : St B w F a pm n) (hd : Disk pm dev N H []) (hB : B ≤ w.heap.size) (hn : n ≤ 800000000) (hon : pm.off = false) (hj : Jr N H G E S txs nx)
    (ht : Tab w) (hgc : 0 < B) :
    Calls Tryd.prog 15 #[.pointer (some ⟨a, 0, none⟩), .int .i64 (dev : Int)] w (OpenJ B w F a pm n dev N H G E nx txs) := by
  refine (open_on hst hd hB hn hon hj.n8 ht hgc).mono ?_
  rintro e w' ⟨F', pm', G', E', hf, hG, hE, h⟩
  rw [virt_nil, hj.newest] at hG hE
  have hG' : G' = G := hG
  have hE' : E' = E := hE
  subst hG' hE'
  have g1 := hj.g1
  have gm := hj.gm
  rcases h with ⟨hbad, _⟩ | ⟨_, txs', nx', hends, h⟩
  · rcases hbad with h | h <;> omega
  rw [virt_nil] at hends
  obtain ⟨rfl, rfl⟩ := Ends.unique hends hj.ends
  refine ⟨F', pm', hf, ?_⟩
  rcases h with ⟨g, v, rfl, h1, h2, h3, h4, h5, h6⟩ | ⟨rfl, h1, h2, h3⟩
  · exact .inl ⟨g, v, rfl, h1, h2, h3, h4, h5, h6⟩
  · exact .inr ⟨rfl, h1, h2, h3⟩
/-- Behind a crash within 'Open'. -/
theorem Jr.opened {N : Nat} {H : List (List UInt8)} {G E S nx : Nat} {txs : List Tx} (h : Jr N H G E S txs nx) (hg : G + 1 < 4000000000) {vs : Ws} (hv : vs.Sublist [((G + 1) % 2, hdrB (G + 1) E)]) : ∃ G' S', G' ≤ G + 1 ∧ Jr N (setAll vs H) G' E S' txs nx := by
  rcases sub_one hv with rfl | rfl
  · exact ⟨G, S, by omega, h⟩
  · exact ⟨G + 1, G + 1, by omega, h.header hg⟩
/-- What 'Append' leaves of a journal. -/
def AppdJ (B : Nat) (w : World) (F : Nat → Prop) (a : Nat) (pm : PM) (n dev N : Nat) (H : List (List UInt8)) (G E nx : Nat) (txs : List Tx) (g : Nat) (tx : Tx) (e : Ending) (w' : World) : Prop :=
  ∃ (F' : Nat → Prop) (pm' : PM), WFr B w F g a pm (n + 25) dev F' pm' w' ∧
    ((longM tx = true ∧ e = .returned (.int .i64 5) ∧ Disk pm' dev N H [] ∧ pm'.off = false ∧ WalB w' g a dev N ⟨G, E, nx, txs.length + 1⟩) ∨
     (longM tx = false ∧ fitsM N nx tx = false ∧ e = .returned (.int .i64 3) ∧ Disk pm' dev N H [] ∧ pm'.off = false ∧ WalB w' g a dev N ⟨G, E, nx, txs.length + 1⟩) ∨
     (fitsM N nx tx = true ∧ e = .returned (.int .i64 0) ∧ pm'.off = false ∧ WalB w' g a dev N ⟨G, E, nx + partsM (encM tx), (txs ++ [tx]).length + 1⟩ ∧ ∃ H', Disk pm' dev N H' [] ∧ Jr N H' G E G (txs ++ [tx]) (nx + partsM (encM tx))) ∨
     (fitsM N nx tx = true ∧ e = .returned (.int .i64 2) ∧ pm.fuse ≠ none ∧ pm'.off = true ∧ ∃ ws', Disk pm' dev N H ws' ∧ ∀ vs : Ws, vs.Sublist ws' → Jr N (setAll vs H) G E (G + 1) txs nx ∨ Jr N (setAll vs H) G E (G + 1) (txs ++ [tx]) (nx + partsM (encM tx))))
theorem append_jr {B : Nat} {w : World} {F : Nat → Prop} {a : Nat} {pm : PM} {n dev N : Nat} {H : List (List UInt8)} {G E nx : Nat} {txs : List Tx} {g : Nat} {A : Option Addr} {nt c : Nat} {tx : Tx} (hst : St B w F a pm n) (hd : Disk pm dev N H []) (hB : B ≤ w.heap.size) (hn : n ≤ 800000000) (hon : pm.off = false)
    (hj : Jr N H G E G txs nx) (hw : WalB w g a dev N ⟨G, E, nx, txs.length + 1⟩) (hg : ¬ F g) (h : RowsAt w A tx) (hl : tx.length = nt) (hnt : nt ≤ 1000000000) (htot : totM tx ≤ 1000000000000000) (ht : Tab w) (hgc : 0 < B) :
    Calls Tryd.prog 16 #[.pointer (some ⟨g, 0, none⟩), .slice A nt c] w (AppdJ B w F a pm n dev N H G E nx txs g tx) := by
  have gm := hj.gm
  have eg := hj.eg
  have hfew := hj.few.1
  have hnm := hj.nm
  have hnN := hj.nxN
  refine (append_on (m := ⟨G, E, nx, txs.length + 1⟩) hst hd hB hn hon hw hg h hl hnt htot hnN (by show E < _; omega) (by show G < _; omega) (by show txs.length + 1 < _; omega) ht hgc).mono ?_
  rintro e w' ⟨F', pm', hf, h⟩
  refine ⟨F', pm', hf, ?_⟩
  rcases h with h | h | ⟨h1, h2, h3, h4, h5⟩ | ⟨h1, h2, h3, h4, ⟨j, hj1, hj2⟩, h5⟩
  · exact .inl h
  · exact .inr (.inl h)
  · obtain ⟨hlm, hfit⟩ := fitsM_true h1
    refine .inr (.inr (.inl ⟨h1, h2, h4, ?_, _, h3, hj.appended hlm hfit⟩))
    rw [List.length_append]
    exact h5
  · obtain ⟨hlm, hfit⟩ := fitsM_true h1
    exact .inr (.inr (.inr ⟨h1, h2, h3, h4, _, hj2, fun vs hv => hj.crashed hlm hfit hj1 hv⟩))
/-- What 'Truncate' leaves of a journal. -/
def TruncJ (B : Nat) (w : World) (F : Nat → Prop) (a : Nat) (pm : PM) (n dev N : Nat) (H : List (List UInt8)) (G E nx : Nat) (txs : List Tx) (g : Nat) (e : Ending) (w' : World) : Prop :=
  ∃ (F' : Nat → Prop) (pm' : PM), WFr B w F g a pm (n + 2) dev F' pm' w' ∧
    ((e = .returned (.int .i64 0) ∧ pm'.off = false ∧ WalB w' g a dev N ⟨G + 1, G + 1, 2, 1⟩ ∧ ∃ H', Disk pm' dev N H' [] ∧ Jr N H' (G + 1) (G + 1) (G + 1) [] 2) ∨
     (e = .returned (.int .i64 2) ∧ pm.fuse ≠ none ∧ pm'.off = true ∧ ∃ ws', Disk pm' dev N H ws' ∧ ∀ vs : Ws, vs.Sublist ws' → Jr N (setAll vs H) G E G txs nx ∨ Jr N (setAll vs H) (G + 1) (G + 1) (G + 1) [] 2))
theorem truncate_jr {B : Nat} {w : World} {F : Nat → Prop} {a : Nat} {pm : PM} {n dev N : Nat} {H : List (List UInt8)} {G E nx : Nat} {txs : List Tx} {g : Nat} (hst : St B w F a pm n) (hd : Disk pm dev N H []) (hB : B ≤ w.heap.size) (hn : n ≤ 800000000) (hon : pm.off = false)
    (hj : Jr N H G E G txs nx) (hG : G + 1 < 4000000000) (hw : WalB w g a dev N ⟨G, E, nx, txs.length + 1⟩) (hg : ¬ F g) (ht : Tab w) (hgc : 0 < B) :
    Calls Tryd.prog 20 #[.pointer (some ⟨g, 0, none⟩)] w (TruncJ B w F a pm n dev N H G E nx txs g) := by
  have n8 := hj.n8
  refine (truncate_on (m := ⟨G, E, nx, txs.length + 1⟩) hst hd hB hn hon (by omega) hw hg (by show G < _; omega) ht (Nat.lt_of_lt_of_le hgc hB)).mono ?_
  rintro e w' ⟨F', pm', hf, h⟩
  refine ⟨F', pm', hf, ?_⟩
  rcases h with ⟨h1, h2, h3, h4⟩ | ⟨h1, h2, h3, h4, h5⟩
  · exact .inl ⟨h1, h3, h4, _, h2, hj.truncated hG⟩
  · refine .inr ⟨h1, h2, h3, ?_⟩
    rcases h4 with h4 | h4
    · refine ⟨_, h4, fun vs hv => ?_⟩
      rw [List.sublist_nil.1 hv]
      exact .inl hj
    · refine ⟨_, h4, fun vs hv => ?_⟩
      rcases sub_one hv with rfl | rfl
      · exact .inl hj
      · exact .inr (hj.truncated hG)
/-- The room that is promised. -/
theorem parts_cost (tx : Tx) : partsM (encM tx) ≤ costM tx := by
  unfold partsM costM
  rw [encM_len]
  omega
theorem parts_sum (txs : List Tx) : (txs.map fun tx => partsM (encM tx)).sum ≤ sumM txs := by
  unfold sumM
  induction txs with
  | nil => simp
  | cons x l ih =>
    have := parts_cost x
    simp only [List.map_cons, List.sum_cons]
    omega
theorem Jr.room {N : Nat} {H : List (List UInt8)} {G E S nx : Nat} {txs : List Tx} (h : Jr N H G E S txs nx) {tx : Tx} (hlm : longM tx = false) (hf : fitsM N nx tx = false) : ¬ (sumM txs + costM tx : Int) ≤ (N : Int) - 4 := by
  have h1 := h.cost
  have h2 := parts_sum txs
  have h3 := parts_cost tx
  unfold fitsM at hf
  rw [hlm] at hf
  simp at hf
  omega
end Go.Proofs.YtlnfeehokpkgiaaDoor.Wal
/- The law's desk: 'begun'. -/
namespace Go.Proofs.YtlnfeehokpkgiaaDoor.Wal
open Go Go.RowKit Mem Pl Disk Crc _root_.Go.Proofs.YtlnfeehokpkgiaaDoor.Frame
def deskCells (a dev g : Nat) (v : Value) (cost N dims : Nat) : List Value := [.pointer (some ⟨a, 0, none⟩), .int .i64 (dev : Int), .pointer (some ⟨g, 0, none⟩), v, .int .i64 (cost : Int), .int .i64 (N : Int), .int .i64 (dims : Int)]
def DeskB (w : World) (d a dev g : Nat) (v : Value) (cost N dims : Nat) : Prop := Blk w d 58 (deskCells a dev g v cost N dims).toArray
/-- The blocks that nothing turns. -/
def Calm (B : Nat) (F K : Nat → Prop) (k : Nat) : Prop := B ≤ k ∧ ¬ F k ∧ ¬ K k
/-- A desk, the power on; K: its own blocks. -/
structure Dsk (B : Nat) (w : World) (F K : Nat → Prop) (a : Nat) (pm : PM) (n dev N d g : Nat) (v : Value) (txs : List Tx) (cost dims : Nat) (H : List (List UInt8)) (G E nx : Nat) : Prop where
  st : St B w F a pm n
  disk : Disk pm dev N H []
  on : pm.off = false
  jr : Jr N H G E G txs nx
  wal : WalB w g a dev N ⟨G, E, nx, txs.length + 1⟩
  desk : DeskB w d a dev g v cost N dims
  now : TxsAt w (Calm B F K) txs v
  gK : K g
  dK : K d
  gF : ¬ F g
  dF : ¬ F d
  gB : B ≤ g
  dB : B ≤ d
/-- What 'begun' leaves. -/
def BegunP (B : Nat) (w : World) (F : Nat → Prop) (a : Nat) (pm : PM) (n dev N : Nat) (e : Ending) (w' : World) : Prop :=
  ∃ (F' : Nat → Prop) (pm' : PM) (d g : Nat) (H' : List (List UInt8)), e = .returned (.pointer (some ⟨d, 0, none⟩)) ∧ Frm B w F a pm (n + 2 * N + 4) dev F' pm' w' ∧ w.heap.size ≤ d ∧ w.heap.size ≤ g ∧
    Dsk B w' F' (fun k => k = d ∨ k = g) a pm' (n + 2 * N + 4) dev N d g (.slice none 0 0) [] 0 0 H' 2 1 2
set_option maxRecDepth 100000 in
set_option maxHeartbeats 4000000 in
theorem begun_any {B : Nat} {w : World} {F : Nat → Prop} {a : Nat} {pm : PM} {n dev N : Nat} {H : List (List UInt8)} {ws : Ws} (hst : St B w F a pm n) (hd : Disk pm dev N H ws) (hB : B ≤ w.heap.size) (hn : n ≤ 700000000) (hon : pm.off = false) (hfz : pm.fuse = none) (h8 : 8 ≤ N)
    (ht : Tab w) (hgc : 0 < B) :
    Calls Tryd.prog 21 #[.pointer (some ⟨a, 0, none⟩), .int .i64 (dev : Int), .int .i64 (N : Int)] w (BegunP B w F a pm n dev N) := by
  have hN4 := (hd.size hst.ok).2
  have HFM := Lib.hid (format_on hst hd hB (by omega) hon h8 ht hgc)
  have HST := Lib.hid hst
  have HT := Lib.hid ht
  have HFZ := Lib.hid hfz
  clear hst hd hon ht hfz
  go_enter Tryd.func21, Tryd.ntmps21
  go_wp2_with fail
  refine HFM.out.mono ?_
  rintro e w1 ⟨F1, pm1, hf1, ⟨rfl, hd1, hon1⟩ | ⟨_, hno, _⟩⟩
  · have HF1 := Lib.hid hf1
    have HOP := Lib.hid (open_jr hf1.st hd1 (Nat.le_trans hB hf1.mods.size) (by omega) hon1 (Jr.fresh h8 (by omega)) (tab_frm HT.out hgc hB HST.out hf1) hgc)
    clear hf1 hd1 hon1 HFM
    go_wp2_with fail
    refine HOP.out.mono ?_
    rintro e w2 ⟨F2, pm2, hf2, ⟨g, v, rfl, hd2, hon2, hg1, hg2, hw2, htx2⟩ | ⟨_, hno, _⟩⟩
    · obtain ⟨A, c, rfl, _⟩ := htx2.rows
      have HF2 := Lib.hid (HF1.out.trans hf2)
      have HD2 := Lib.hid (⟨hd2, hon2, hg2, hw2⟩ : _ ∧ _ ∧ _ ∧ _)
      have HS := Lib.hid (⟨Nat.le_trans HF1.out.mods.size hg1, hf2.mods.size⟩ : _ ∧ _)
      have HJ := Lib.hid ((Jr.fresh h8 (by omega) (N := N)).header (by omega))
      have hb3 := below_al' (w := w2) (.cells (deskCells a dev g (.slice none 0 0) 0 N 0).toArray 58)
      have HB3 := Lib.hid hb3
      have HK3 := Lib.hid (Blk.new w2 58 (deskCells a dev g (.slice none 0 0) 0 N 0).toArray)
      clear hf2 hd2 hon2 hg1 hg2 hw2 htx2 HOP hb3
      go_wp2_with fail
      go_ret
      have hsz := Nat.le_trans HF1.out.mods.size HS.out.2
      refine ⟨F2, pm2, w2.heap.size, g, (freshH N).set ((1 + 1) % 2) (hdrB (1 + 1) 1), rfl, (HF2.out.more (by omega)).below HB3.out, hsz, HS.out.1, ?_⟩
      exact ⟨st_more (HF2.out.st.below HB3.out) (by omega), HD2.out.1, HD2.out.2.1, HJ.out, HD2.out.2.2.2.below HB3.out, HK3.out, TxsAt.nil_ _ _ _, .inr rfl, .inl rfl, HD2.out.2.2.1, fun hF => by have := (HF2.out.st.lt _ hF).2; omega, Nat.le_trans hB HS.out.1, Nat.le_trans hB hsz⟩
    · exact absurd (HF1.out.fuse HFZ.out) hno
  · exact absurd HFZ.out hno
end Go.Proofs.YtlnfeehokpkgiaaDoor.Wal
/- Rows of transactions that may be told. -/
namespace Go.Proofs.YtlnfeehokpkgiaaDoor.Wal
open Go Go.RowKit Mem Pl Disk Crc _root_.Go.Proofs.YtlnfeehokpkgiaaDoor.Frame
theorem mayTy : ElTy Tryd.prog 59 38 1 24 (.slice none 0 0) := ⟨Tryd.underlying59, by kernel_rfl, by kernel_rfl, by decide⟩
/-- A row of rows of transactions; it lies in blocks of J. -/
def MayAt (w : World) (J : Nat → Prop) (mays : List (List Tx)) (v : Value) : Prop := ∃ vs, Vec w J 38 1 v mays.length vs ∧ ∀ (k : Nat) (txs : List Tx), mays[k]? = some txs → ∃ u, vs[k]? = some u ∧ TxsAt w J txs u
section
variable {w w' : World} {J J' F : Nat → Prop} {mays : List (List Tx)} {v : Value}
theorem MayAt.mods {B : Nat} (x : MayAt w J mays v) (hm : Mods B F w w') (hn : ∀ g, g < w.heap.size → J g → g < B ∧ ¬ F g) : MayAt w' J mays v := by
  obtain ⟨vs, h1, h2⟩ := x
  exact ⟨vs, h1.mods hm hn, fun k t ht => (h2 k t ht).imp fun _ h => ⟨h.1, h.2.mods hm hn⟩⟩
theorem MayAt.mono (x : MayAt w J mays v) (hF : ∀ g, g < w.heap.size → J g → J' g) : MayAt w J' mays v := by
  obtain ⟨vs, h1, h2⟩ := x
  exact ⟨vs, h1.mono hF, fun k t ht => (h2 k t ht).imp fun _ h => ⟨h.1, h.2.mono hF⟩⟩
theorem MayAt.below (x : MayAt w J mays v) (hb : Below w.heap.size w w') : MayAt w' J mays v := by
  obtain ⟨vs, h1, h2⟩ := x
  exact ⟨vs, h1.below hb, fun k t ht => (h2 k t ht).imp fun _ h => ⟨h.1, h.2.below hb⟩⟩
/-- Each of its cells. -/
theorem MayAt.at_ (x : MayAt w J mays v) : ∃ A c, v = .slice A mays.length c ∧ ∀ (k : Nat) (txs : List Tx), mays[k]? = some txs → ∃ ad u, A = some ad ∧ w.cell? (ad.add k) = some u ∧ TxsAt w J txs u := by
  obtain ⟨vs, h1, h2⟩ := x
  obtain ⟨A, c, rfl⟩ := h1.shape
  refine ⟨A, c, rfl, fun k txs hk => ?_⟩
  obtain ⟨u, hu, ht⟩ := h2 k txs hk
  obtain ⟨g, rfl, hc⟩ := h1.cell k _ hu
  refine ⟨_, u, rfl, ?_, ht⟩
  rw [add_off]
  simpa using hc
/-- A literal of some rows. -/
theorem MayAt.new (w : World) (us : List Value) (hl : us.length = mays.length) (hm : mays.length ≤ 1000) (h : ∀ (k : Nat) (txs : List Tx), mays[k]? = some txs → ∃ u, us[k]? = some u ∧ TxsAt w J txs u) (hJ : J w.heap.size) :
    MayAt (w.alloc (.cells us.toArray 38)) J mays (.slice (some ⟨w.heap.size, 0, none⟩) mays.length mays.length) := by
  exact ⟨us, Vec.of_blk (Blk.new w _ _) hJ (by rw [hl, Nat.mul_one]) (by unfold maxLen; omega), fun k txs hk => (h k txs hk).imp fun u x => ⟨x.1, x.2.below (below_al' _)⟩⟩
end
/-- What a journal's transactions cost. -/
theorem Jr.sum_le {N : Nat} {H : List (List UInt8)} {G E S nx : Nat} {txs : List Tx} (h : Jr N H G E S txs nx) : sumM txs ≤ 1000000 ∧ ∀ tx ∈ txs, tx.length ≤ 1000000000 ∧ totM tx ≤ 1000000000000000 := by
  have h1 := h.few
  have h2 := h.nxN
  have h3 := h.nm
  have hx : ∀ tx ∈ txs, tx.length ≤ 16 ∧ totM tx ≤ 1024 := fun tx hm => by
    have := h1.2 tx hm
    unfold longM at this
    simp at this
    omega
  refine ⟨?_, fun tx hm => by have := hx tx hm; omega⟩
  have h4 : sumM txs ≤ 34 * txs.length := by
    unfold sumM
    clear h h1 h2 h3
    induction txs with
    | nil => simp
    | cons x l ih =>
      have h5 := hx x (by simp)
      have h6 := ih fun tx hm => hx tx (by simp [hm])
      have h7 : costM x ≤ 34 := by unfold costM; omega
      simp only [List.map_cons, List.sum_cons, List.length_cons]
      omega
  omega
end Go.Proofs.YtlnfeehokpkgiaaDoor.Wal
/- The frame of a desk's call: the plant's blocks F, and the desk's own blocks K. -/
namespace Go.Proofs.YtlnfeehokpkgiaaDoor.Wal
open Go Go.RowKit Mem Pl Disk Crc _root_.Go.Proofs.YtlnfeehokpkgiaaDoor.Frame
/-- The other disks, where nothing waits, are as they were. -/
def Quiet0 (dev : Nat) (pm pm' : PM) : Prop := ∀ (j N : Nat) (H : List (List UInt8)), j ≠ dev → Disk pm j N H [] → Disk pm' j N H []
structure FrD (B : Nat) (w : World) (F K : Nat → Prop) (a : Nat) (pm : PM) (n dev : Nat) (F' K' : Nat → Prop) (pm' : PM) (w' : World) : Prop where
  grow : ∀ k, F' k → F k ∨ w.heap.size ≤ k
  growK : ∀ k, K' k → K k ∨ w.heap.size ≤ k
  mods : Mods w.heap.size (fun k => F k ∨ K k) w w'
  st : St B w' F' a pm' n
  els : Quiet0 dev pm pm'
  fuse : pm.fuse = none → pm'.fuse = none
section
variable {B : Nat} {w w1 w' : World} {F F1 F' K K1 K' : Nat → Prop} {a n n1 dev g d : Nat} {pm pm1 pm' : PM}
theorem FrD.refl (h : St B w F a pm n) : FrD B w F K a pm n dev F K pm w := ⟨fun _ h => .inl h, fun _ h => .inl h, Mods.refl _ _ _, h, fun _ _ _ _ h => h, fun h => h⟩
theorem FrD.more (h : FrD B w F K a pm n dev F' K' pm' w') (hn : n ≤ n1) : FrD B w F K a pm n1 dev F' K' pm' w' := ⟨h.grow, h.growK, h.mods, st_more h.st hn, h.els, h.fuse⟩
theorem FrD.trans (h : FrD B w F K a pm n1 dev F1 K1 pm1 w1) (k : FrD B w1 F1 K1 a pm1 n dev F' K' pm' w') : FrD B w F K a pm n dev F' K' pm' w' :=
  ⟨fun g hg => (k.grow g hg).elim (h.grow g) fun h1 => .inr (Nat.le_trans h.mods.size h1), fun g hg => (k.growK g hg).elim (h.growK g) fun h1 => .inr (Nat.le_trans h.mods.size h1),
    h.mods.trans (k.mods.mono h.mods.size fun g hlt hg => hg.elim (fun hg => .inl ((h.grow g hg).resolve_right (by omega))) fun hg => .inr ((h.growK g hg).resolve_right (by omega))), k.st, fun j N H hj hd => k.els j N H hj (h.els j N H hj hd), fun e => k.fuse (h.fuse e)⟩
theorem FrD.below (h : FrD B w F K a pm n dev F' K' pm' w1) (hb : Below w1.heap.size w1 w') : FrD B w F K a pm n dev F' K' pm' w' :=
  ⟨h.grow, h.growK, h.mods.then_below hb h.mods.size, h.st.below hb, h.els, h.fuse⟩
theorem FrD.of_below (h : FrD B w1 F K a pm n dev F' K' pm' w') (hb : Below w.heap.size w w1) : FrD B w F K a pm n dev F' K' pm' w' :=
  ⟨fun g hg => (h.grow g hg).imp id fun h => Nat.le_trans hb.size h, fun g hg => (h.growK g hg).imp id fun h => Nat.le_trans hb.size h, (Mods.of_below hb).trans (h.mods.mono hb.size fun _ _ h => h), h.st, h.els, h.fuse⟩
theorem Frm.desk (h : Frm B w F a pm n dev F' pm' w') : FrD B w F K a pm n dev F' K pm' w' :=
  ⟨h.grow, fun _ h => .inl h, h.mods.mono (Nat.le_refl _) fun _ _ h => .inl h, h.st, fun j N H hj hd => h.els j N H [] hj hd, h.fuse⟩
theorem WFr.desk (h : WFr B w F g a pm n dev F' pm' w') (hg : K g) : FrD B w F K a pm n dev F' K pm' w' :=
  ⟨h.grow, fun _ h => .inl h, h.mods.mono (Nat.le_refl _) fun k _ (h : F k ∨ k = g) => h.imp id fun (e : k = g) => by rw [e]; exact hg, h.st, fun j N H hj hd => h.els j N H [] hj hd, h.fuse⟩
/-- The desk has more blocks. -/
theorem FrD.own (h : FrD B w F K a pm n dev F' K' pm' w') (hK : ∀ k, K1 k → K' k ∨ w.heap.size ≤ k) : FrD B w F K a pm n dev F' K1 pm' w' :=
  ⟨h.grow, fun k hk => (hK k hk).elim (h.growK k) .inr, h.mods, h.st, h.els, h.fuse⟩
/-- A cell of the desk's own. -/
theorem FrD.cell (h : FrD B w F K a pm n dev F' K' pm' w') (hd : K' d) (hF : ¬ F' d) (i : Nat) (u : Value) : FrD B w F K a pm n dev F' K' pm' (w'.setCell ⟨d, i, none⟩ u) := by
  have hm : Mods w'.heap.size (fun j => j = d) w' (w'.setCell ⟨d, i, none⟩ u) := (Mods.refl w'.heap.size (fun j => j = d) w').setCell (p := ⟨d, i, none⟩) (.inl rfl) u
  refine ⟨h.grow, h.growK, ?_, ⟨h.st.at_.mods hm fun k hk hF2 => ⟨hk, fun e => ?_⟩, h.st.ok, fun k hk => ⟨(h.st.lt k hk).1, ?_⟩, h.st.steps, h.st.waits⟩, h.els, h.fuse⟩
  · rcases h.growK d hd with hk | hk
    · exact h.mods.setCell (p := ⟨d, i, none⟩) (.inl (.inr hk)) u
    · exact h.mods.setCell (p := ⟨d, i, none⟩) (.inr hk) u
  · subst e
    exact hF hF2
  · simpa using (h.st.lt k hk).2
/-- What nothing turns is as it was. -/
theorem FrD.calm (h : FrD B w F K a pm n dev F' K' pm' w') {txs : List Tx} {v : Value} (x : TxsAt w (Calm B F K) txs v) : TxsAt w' (Calm B F' K') txs v := by
  have x1 : TxsAt w (fun k => Calm B F K k ∧ k < w.heap.size) txs v := x.mono fun k hk hc => ⟨hc, hk⟩
  have x2 : TxsAt w' (fun k => Calm B F K k ∧ k < w.heap.size) txs v := x1.mods h.mods fun k hk hc => ⟨hk, fun hh => hh.elim hc.1.2.1 hc.1.2.2⟩
  exact x2.mono fun k _ hc => ⟨hc.1.1, fun hF => (h.grow k hF).elim hc.1.2.1 fun h1 => by have := hc.2; omega, fun hK => (h.growK k hK).elim hc.1.2.2 fun h1 => by have := hc.2; omega⟩
theorem FrD.calmMay (h : FrD B w F K a pm n dev F' K' pm' w') {mays : List (List Tx)} {v : Value} (x : MayAt w (Calm B F K) mays v) : MayAt w' (Calm B F' K') mays v := by
  have x1 : MayAt w (fun k => Calm B F K k ∧ k < w.heap.size) mays v := x.mono fun k hk hc => ⟨hc, hk⟩
  have x2 : MayAt w' (fun k => Calm B F K k ∧ k < w.heap.size) mays v := x1.mods h.mods fun k hk hc => ⟨hk, fun hh => hh.elim hc.1.2.1 hc.1.2.2⟩
  exact x2.mono fun k _ hc => ⟨hc.1.1, fun hF => (h.grow k hF).elim hc.1.2.1 fun h1 => by have := hc.2; omega, fun hK => (h.growK k hK).elim hc.1.2.2 fun h1 => by have := hc.2; omega⟩
/-- Below B nothing is turned. -/
theorem FrD.low (h : FrD B w F K a pm n dev F' K' pm' w') (hB : B ≤ w.heap.size) (hF : ∀ k, F k → B ≤ k) (hK : ∀ k, K k → B ≤ k) : Below B w w' :=
  (h.mods.mono hB fun _ _ hf => hf).below fun k hk hf => by
    rcases hf with hf | hf
    · have := hF k hf; omega
    · have := hK k hf; omega
/-- A boot. -/
theorem St.booted (h : St B w F a pm n) (hB : B ≤ w.heap.size) (hn : n ≤ 1000000000) (AK : Option Addr) (nk ck : Nat) (keep : List Int) (hk : IAt w AK keep) (hkl : keep.length = nk) (hkn : keep ≠ [] → ∀ ad, AK = some ad → ¬ F ad.block) (hnk : nk ≤ 9223372036854775807) :
    Calls Tryd.prog 17 #[.pointer (some ⟨a, 0, none⟩), .slice AK nk ck] w fun e w' => e = .returned (.tuple #[]) ∧ FrD B w F K a pm (n + 1) dev (Grow F w w') K (pm.boot keep) w' := by
  refine (h.boot hB hn AK nk ck keep hk hkl hkn hnk).mono ?_
  rintro e w' ⟨he, hs, hm⟩
  refine ⟨he, grow_new, fun _ h => .inl h, hm.mono (Nat.le_refl _) fun _ _ h => .inl h, hs, fun j N H _ hd => ?_, fun _ => rfl⟩
  obtain ⟨vs, h1, h2⟩ := hd.boot keep
  rw [List.sublist_nil.1 h2] at h1
  exact h1
end
end Go.Proofs.YtlnfeehokpkgiaaDoor.Wal
