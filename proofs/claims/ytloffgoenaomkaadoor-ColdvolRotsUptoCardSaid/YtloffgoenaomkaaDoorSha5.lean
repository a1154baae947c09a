/- Layer 2 (sha): Write. -/
import Derived.Test.YtloffgoenaomkaaDoorSha4
import Derived.Test.YtloffgoenaomkaaDoorFold2
namespace Go.Proofs.YtloffgoenaomkaaDoor.Sha
open Go Go.RowKit Mem Pl Crc Hash
/-- So many pieces taken. -/
def piecesM (s : S8w) (l : List UInt8) : Nat → S8w
  | 0 => s
  | k + 1 => pieceM (piecesM s l k) ((l.drop (64 * k)).take 64)
/-- Bytes aside of a block. -/
def Far (w : World) (g : Nat) (A : Option Addr) (bs : List UInt8) : Prop := BAt w A bs ∧ ∀ ad, A = some ad → ad.block ≠ g
theorem Far.below {w w' : World} {g : Nat} {A : Option Addr} {bs : List UInt8} (h : Far w g A bs) (hb : Below w.heap.size w w') : Far w' g A bs := ⟨h.1.below hb, h.2⟩
theorem Far.grown {w w' : World} {g : Nat} {A : Option Addr} {bs : List UInt8} (h : Far w g A bs) (hb : w.grownBy w' (some g)) : Far w' g A bs := by
  refine ⟨h.1.keep fun ad k v hA _ hc => ?_, h.2⟩
  have hne := h.2 ad hA
  have hlt := cell_lt hc
  simp only [World.cell?, addr_block] at hc hlt ⊢
  rw [hb.block _ hlt (by intro e; injection e with e; exact hne e)]
  exact hc
theorem Far.set_ {w : World} {g i : Nat} {A : Option Addr} {bs : List UInt8} (h : Far w g A bs) (v : Value) : Far (w.setCell ⟨g, i, none⟩ v) g A bs := by
  refine ⟨h.1.keep fun ad k u hA _ hc => ?_, h.2⟩
  have hne := h.2 ad hA
  simp only [World.cell?, addr_block] at hc ⊢
  rw [Below.heap_setCell w ⟨g, i, none⟩ v ad.block hne]
  exact hc
theorem Far.drop {w : World} {g m c l : Nat} {A : Option Addr} {bs : List UInt8} (h : Far w g A bs) (hm : bs.length ≤ c) (_ : l ≤ m) : Far w g (cutA A c l) (bs.drop l) := by
  refine ⟨h.1.cut c l hm, fun ad e => ?_⟩
  unfold cutA at e
  split at e
  · exact h.2 ad e
  · cases A with
    | none => cases e
    | some b =>
      simp only [Option.map_some, Option.some.injEq] at e
      rw [← e, addr_block]
      exact h.2 b rfl
theorem StC_set9 (s : S8w) (v : Value) (n n2 : Nat) : (StC s v n).toArray.setIfInBounds 9 (.int .u64 (n2 : Int)) = (StC s v n2).toArray := by simp [StC, S8w.cells]
theorem StC_set8 (s : S8w) (v v2 : Value) (n : Nat) : (StC s v n).toArray.setIfInBounds 8 v2 = (StC s v2 n).toArray := by simp [StC, S8w.cells]
def lenAt (g : Nat) (wr : World) : Nat := match wr.cell? ⟨g, 8, none⟩ with
  | some (.slice _ m _) => m
  | _ => 0
theorem StC_cells {w : World} {g : Nat} {s : S8w} {v : Value} {n : Nat} (h : Blk w g 147 (StC s v n).toArray) :
    w.cell? ⟨g, 0, none⟩ = some (.int .u32 (U s.a)) ∧ w.cell? ⟨g, 1, none⟩ = some (.int .u32 (U s.b)) ∧ w.cell? ⟨g, 2, none⟩ = some (.int .u32 (U s.c)) ∧ w.cell? ⟨g, 3, none⟩ = some (.int .u32 (U s.d)) ∧
    w.cell? ⟨g, 4, none⟩ = some (.int .u32 (U s.e)) ∧ w.cell? ⟨g, 5, none⟩ = some (.int .u32 (U s.f)) ∧ w.cell? ⟨g, 6, none⟩ = some (.int .u32 (U s.g)) ∧ w.cell? ⟨g, 7, none⟩ = some (.int .u32 (U s.h)) ∧ w.cell? ⟨g, 8, none⟩ = some v ∧ w.cell? ⟨g, 9, none⟩ = some (.int .u64 (n : Int)) :=
  ⟨h.cell 0, h.cell 1, h.cell 2, h.cell 3, h.cell 4, h.cell 5, h.cell 6, h.cell 7, h.cell 8, h.cell 9⟩
theorem aside_grown {w w' : World} {g : Nat} {A : Option Addr} {bs : List UInt8} (h : BAt w A bs) (hn : bs ≠ [] → ∀ ad, A = some ad → ad.block ≠ g) (hb : w.grownBy w' (some g)) : BAt w' A bs := by
  by_cases h0 : bs = []
  · subst h0
    exact BAt.nil_ _ _
  · exact (Far.grown ⟨h, hn h0⟩ hb).1
theorem aside_lt {w : World} {A : Option Addr} {bs : List UInt8} (h : BAt w A bs) (h0 : bs ≠ []) (ad : Addr) (hA : A = some ad) : ad.block < w.heap.size := by
  obtain ⟨ad', e, hc⟩ := h (List.length_pos_iff.2 h0)
  rw [hA] at e
  obtain rfl := Option.some.inj e
  have := cell_lt (hc 0 (List.length_pos_iff.2 h0))
  rwa [addr_block] at this
/-- What a write's loop keeps. -/
def WrR (w : World) (g : Nat) (s : S8w) (tot : List UInt8) (n : Nat) (wr : World) : Prop :=
  ∃ (k : Nat) (A : Option Addr) (m c : Nat), 64 * k ≤ tot.length ∧ m = tot.length - 64 * k ∧ m ≤ c ∧ (k = 0 → Own wr (g + 1) 5 A m c tot) ∧ Blk wr g 147 (StC (piecesM s tot k) (.slice A m c) n).toArray ∧ Far wr g A (tot.drop (64 * k)) ∧ Below g w wr
set_option maxRecDepth 100000 in
set_option maxHeartbeats 8000000 in
theorem write_any (w : World) (g : Nat) (s : S8w) (A : Option Addr) (m c : Nat) (rest : List UInt8) (n : Nat) (hk : Blk w g 147 (StC s (.slice A m c) n).toArray) (ho : Own w (g + 1) 5 A m c rest) (hm64 : m < 64)
    (AB : Option Addr) (l d : Nat) (b : List UInt8) (hb : BAt w AB b) (hbn : b ≠ [] → ∀ ad, AB = some ad → ad.block ≠ g) (hl : b.length = l) (hl6 : l ≤ 1000000) (hn : n ≤ 1000000000) (hkt : Ktab w) (hgk : 1 < g) :
    Calls Tryd.prog 68 #[.pointer (some ⟨g, 0, none⟩), .slice AB l d] w fun e w' => e = .returned (.tuple #[]) ∧
      ∃ (A' : Option Addr) (m' c' : Nat), Blk w' g 147 (StC (piecesM s (rest ++ b) ((rest ++ b).length / 64)) (.slice A' m' c') (n + l)).toArray ∧ m' = (rest ++ b).length % 64 ∧ m' ≤ c' ∧
        Far w' g A' ((rest ++ b).drop (64 * ((rest ++ b).length / 64))) ∧ ((rest ++ b).length < 64 → Own w' (g + 1) 5 A' m' c' (rest ++ b)) ∧ Below g w w' := by
  have hml := ho.len
  have hglt := hk.lt
  obtain ⟨tot, htot⟩ : ∃ tot, rest ++ b = tot := ⟨_, rfl⟩
  have htl : tot.length = m + l := by rw [← htot, List.length_append, hml, hl]
  have HTL := Lib.hid htl
  have HTOT := Lib.hid htot
  rw [htot]
  clear htot htl
  have HK := Lib.hid hk
  have HO := Lib.hid ho
  have HL := Lib.hid hl
  have HB := Lib.hid hb
  have HKT := Lib.hid hkt
  have c9 := hk.cell 9
  have c8 := hk.cell 8
  simp [StC, S8w.cells] at c9 c8
  have hfr := hk.frozen 9
  have hwl : IntKind.u64.wrap (l : Int) = (l : Int) := IntWalk.u64_in _ (by omega)
  have hwn : IntKind.u64.wrap ((n : Int) + (l : Int)) = ((n + l : Nat) : Int) := by rw [show (n : Int) + (l : Int) = ((n + l : Nat) : Int) by omega]; exact IntWalk.u64_in _ (by omega)
  obtain ⟨n2, hn2⟩ : ∃ n2, n + l = n2 := ⟨_, rfl⟩
  rw [hn2] at hwn ⊢
  clear hk ho hl hb hkt hn2
  go_enter Tryd.func68, Tryd.ntmps68
  have hk1 := HK.out.set_ 9 (.int .u64 (n2 : Int))
  rw [StC_set9] at hk1
  have hg1 : w.grownBy (w.setCell ⟨g, 9, none⟩ (.int .u64 (n2 : Int))) (some g) := grownBy_setCell w _ _ _ rfl
  have ho1 := HO.out.kept hg1 (by
    rcases HO.out.form with ⟨h0, _⟩ | ⟨g', h0, h1, _⟩
    · exact .inl h0
    · rw [h0]; exact .inr (by simp; omega))
  have HW1 := Lib.hid (⟨hk1, ho1, aside_grown HB.out hbn hg1, (Below.refl g w).grown hg1 (Nat.le_of_lt hglt) (fun k hk => by injection hk with hk; omega)⟩ : _ ∧ _ ∧ _ ∧ _)
  have hsz1 : (w.setCell ⟨g, 9, none⟩ (.int .u64 (n2 : Int))).heap.size = w.heap.size := by simp [World.setCell]
  have HSZ := Lib.hid hsz1
  clear hk1 hg1 ho1 hsz1
  go_wp2_with
    (at_builtin
     refine wpList_append_bytes rfl (.tmp 18) (.tmp 19) _ rfl (g + 1) _ Pl.byteTy A m c rest rfl HW1.out.2.1 AB l d b rfl HW1.out.2.2.1 HL.out (m + l) rfl (by omega) (by rw [HSZ.out]; exact hglt) ?_
     intro A2 c2 w2 ho2 hg2 hb2 hA2
     have hk2 := HW1.out.1.grown hg2 (by
       rw [HW1.out.2.1.block]
       rcases HW1.out.2.1.form with ⟨h0, _⟩ | ⟨g', h0, h1, _⟩
       · rw [h0]; simp
       · rw [h0]; simp; omega)
     have HW2 := Lib.hid (⟨hk2, ho2, HW1.out.2.2.2.trans (hb2.mono (Nat.le_succ g))⟩ : _ ∧ _ ∧ _)
     have hst := hk2.set_ 8 (.slice A2 (m + l) c2)
     rw [StC_set8] at hst
     have hgs : w2.grownBy (w2.setCell ⟨g, 8, none⟩ (.slice A2 (m + l) c2)) (some g) := grownBy_setCell w2 _ _ _ rfl
     have hos := ho2.kept hgs (by
       rcases ho2.form with ⟨h0, _⟩ | ⟨g', h0, h1, _⟩
       · exact .inl h0
       · rw [h0]; exact .inr (by simp; omega))
     have HST := Lib.hid (⟨hst, hos, HW2.out.2.2.grown hgs (by have := HW2.out.2.2.size; omega) (fun k hk => by injection hk with hk; omega)⟩ : _ ∧ _ ∧ _)
     obtain ⟨k0, k1, k2, k3, k4, k5, k6, k7, k8, k9⟩ := StC_cells hk2
     have kf := hk2.frozen 8
     clear hst hgs hos
     clear hk2 ho2 hg2 hb2 hA2)
  clear k0 k1 k2 k3 k4 k5 k6 k7 k8 k9 kf c8 c9 hfr
  rw [HTOT.out] at HST
  go_loopw [] (fun wr => WrR w g s tot n2 wr) (fun wr => lenAt g wr)
  case atStart =>
    refine ⟨0, A2, m + l, c2, by omega, by have := HTL.out; omega, ?_, fun _ => HST.out.2.1, HST.out.1, ⟨by simpa using HST.out.2.1.bat, fun ad e => ?_⟩, HST.out.2.2⟩
    · exact HST.out.2.1.cap_le.1
    · rcases HST.out.2.1.form with ⟨h0, _⟩ | ⟨g', h0, h1, _⟩
      · rw [h0] at e; cases e
      · rw [h0] at e; injection e with e; subst e; show g' ≠ g; omega
  case round =>
    obtain ⟨k, A, m', c, hk1, hk2, hk3, hk4, hk5, hk6, hk7⟩ := hrel
    have HR := Lib.hid (⟨hk1, hk2, hk3, hk4, hk5, hk6, hk7⟩ : _ ∧ _ ∧ _ ∧ _ ∧ _ ∧ _ ∧ _)
    obtain ⟨q0, q1, q2, q3, q4, q5, q6, q7, q8, q9⟩ := StC_cells hk5
    obtain ⟨r, hr⟩ : ∃ r, piecesM s tot k = r := ⟨_, rfl⟩
    rw [hr] at q0 q1 q2 q3 q4 q5 q6 q7
    have HRR := Lib.hid hr
    clear hk1 hk2 hk4 hk5 hk6 hk7 hr
    by_cases hge : 64 ≤ m'
    · have hgI : (64 : Int) ≤ (m' : Int) := by omega
      have hcut1 := fun W => run_cut_h (P := Tryd.prog) 38 5 Pl.byteTy A m' c .i64 64 64 rfl (by omega) W
      have hcut2 := fun W => run_cut_l (P := Tryd.prog) 38 5 Pl.byteTy A m' c .i64 64 64 rfl hge W
      obtain ⟨x0, x1, x2, x3, x4, x5, x6⟩ := HR.out
      have htl := HTL.out
      obtain ⟨ad, hA⟩ : ∃ ad, A = some ad := by
        obtain ⟨ad, e, _⟩ := x5.1 (by rw [List.length_drop]; omega)
        exact ⟨ad, e⟩
      subst hA
      have hbd : Below wr.heap.size wr wr.drew := below_drewN (Below.refl _ _) 1
      have HPC := Lib.hid (piece_any wr.drew r ad c ((tot.drop (64 * k)).take 64) (((x5.below hbd).1).take 64) (by rw [List.length_take, List.length_drop]; omega) ((HKT.out.below x6 hgk).below hbd (by show _ < wr.heap.size; have := x6.size; omega)) (by show _ < wr.heap.size; have := x6.size; omega))
      have HBD := Lib.hid hbd
      have hfar := x5.drop (m := m') (c := c) (l := 64) (by rw [List.length_drop]; omega) hge
      obtain ⟨AC, hAC⟩ : ∃ AC, cutA (some ad) c 64 = AC := ⟨_, rfl⟩
      rw [hAC] at hfar hcut2
      have HFAR := Lib.hid hfar
      have hg9 : g < wr.heap.size := x4.lt
      have hglw := x6.size
      clear x0 x1 x2 x3 x4 x5 x6 htl hbd hfar hAC
      go_wp2_with fail
      refine Ord.region_ord [] [0, 1, 2, 3, 4, 5, 6, 7, 8, 9, 10, 11, 12, 13] (by kernel_rfl) (by kernel_rfl) (by kernel_rfl) (by kernel_rfl) (Ord.ord_all [_, _, _, _, _, _, _, _, _, _, _, _, _, _] rfl (by kernel_rfl) ?_)
      go_wp2_with fail
      refine HPC.out.mono ?_
      rintro e w3 ⟨rfl, hb3⟩
      have hb3' : Below wr.heap.size wr w3 := HBD.out.trans hb3
      have hk3 := HR.out.2.2.2.2.1.below_ hb3'
      have HK3 := Lib.hid (⟨hk3, HFAR.out.below hb3', HR.out.2.2.2.2.2.2.trans (hb3'.mono (Nat.le_of_lt hg9))⟩ : _ ∧ _ ∧ _)
      clear hb3 hb3' hk3 HPC q0 q1 q2 q3 q4 q5 q6 q7 q8 q9
      go_wp2_with
        (refine wpList_store_in rfl 144 (.tmp 41) (.tmp 39) rfl g 0 147 (StC (piecesM s tot k) (.slice (some ad) m' c) n2) (pieceM r ((tot.drop (64 * k)).take 64)).cells rfl rfl HK3.out.1 (by simp [StC, S8w.cells]) (by kernel_rfl) (S8w.one _) ?_
         intro w4 hk4 hg4 hz4)
      have hk4' : Blk w4 g 147 (StC (piecesM s tot (k + 1)) (.slice (some ad) m' c) n2).toArray := by
        have e : (StC (piecesM s tot k) (.slice (some ad) m' c) n2).take 0 ++ (pieceM r ((tot.drop (64 * k)).take 64)).cells ++ (StC (piecesM s tot k) (.slice (some ad) m' c) n2).drop (0 + (pieceM r ((tot.drop (64 * k)).take 64)).cells.length) = StC (piecesM s tot (k + 1)) (.slice (some ad) m' c) n2 := by
          show _ = StC (pieceM (piecesM s tot k) ((tot.drop (64 * k)).take 64)) (.slice (some ad) m' c) n2
          rw [HRR.out]
          rfl
        rw [e] at hk4
        exact hk4
      have HK4 := Lib.hid (⟨hk4', HK3.out.2.1.grown hg4, HK3.out.2.2.grown hg4 (by have := HK3.out.2.2.size; omega) (fun k hk => by injection hk with hk; omega)⟩ : _ ∧ _ ∧ _)
      obtain ⟨q0, q1, q2, q3, q4, q5, q6, q7, q8, q9⟩ := StC_cells hk4'
      have qf := hk4'.frozen 8
      have hst := hk4'.set_ 8 (.slice AC (m' - 64) (c - 64))
      rw [StC_set8] at hst
      have HST4 := Lib.hid hst
      clear hk4 hg4 hz4 hk4' hst
      refine Ord.nx_end ?_
      go_wp2_with fail
      go_roundw
      case rel =>
        obtain ⟨x0, x1, x2, x3, x4, x5, x6⟩ := HR.out
        have htl := HTL.out
        refine ⟨k + 1, AC, m' - 64, c - 64, by omega, by omega, by omega, fun h => by omega, HST4.out, ?_, ?_⟩
        · have h1 := HK4.out.2.1.set_ (i := 8) (.slice AC (m' - 64) (c - 64))
          rw [List.drop_drop] at h1
          rw [show 64 * (k + 1) = 64 * k + 64 by omega]
          exact h1
        · exact HK4.out.2.2.setCell (p := ⟨g, 8, none⟩) (Nat.le_refl _) _
      case measure =>
        have e1 : lenAt g wr = m' := by
          unfold lenAt
          have := (StC_cells HR.out.2.2.2.2.1).2.2.2.2.2.2.2.2.1
          rw [this]
        have e2 : lenAt g (w4.setCell ⟨g, 8, none⟩ (.slice AC (m' - 64) (c - 64))) = m' - 64 := by
          unfold lenAt
          have := (StC_cells HST4.out).2.2.2.2.2.2.2.2.1
          rw [this]
        show lenAt g (w4.setCell ⟨g, 8, none⟩ (.slice AC (m' - 64) (c - 64))) < lenAt g wr
        rw [e1, e2]
        omega
    · have hgI : ¬ (64 : Int) ≤ (m' : Int) := by omega
      go_wp2_with fail
      refine bodyPost_end (results_none rfl _ _ _) rfl ?_
      obtain ⟨x0, x1, x2, x3, x4, x5, x6⟩ := HR.out
      have htl := HTL.out
      have hkk : tot.length / 64 = k := by omega
      refine ⟨rfl, A, m', c, ?_, by omega, hk3, ?_, fun h => ?_, x6⟩
      · rw [hkk]; exact x4
      · rw [hkk]; exact x5
      · exact x3 (by omega)
end Go.Proofs.YtloffgoenaomkaaDoor.Sha
