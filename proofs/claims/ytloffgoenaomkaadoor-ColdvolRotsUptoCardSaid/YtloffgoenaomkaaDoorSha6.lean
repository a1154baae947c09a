/- Layer 2 (sha): Sum of a state. -/
import Derived.Test.YtloffgoenaomkaaDoorSha5
namespace Go.Proofs.YtloffgoenaomkaaDoor.Sha
open Go Go.RowKit Mem Pl Crc Hash
theorem S8w.len (s : S8w) : s.cells.length = 8 := rfl
def padZ (m : Nat) : Nat := if m ≤ 55 then 55 - m else 119 - m
def lenB (n i : Nat) : UInt8 := UInt8.ofNat (8 * n / 2 ^ (56 - 8 * i))
def padM (rest : List UInt8) (n : Nat) : List UInt8 := rest ++ [128] ++ List.replicate (padZ rest.length) 0 ++ (List.range 8).map (lenB n)
def sumM (s : S8w) (rest : List UInt8) (n : Nat) : List UInt8 := toldM (piecesM s (padM rest n) ((padM rest n).length / 64))
theorem padM_len {rest : List UInt8} (h : rest.length < 64) (n : Nat) : (padM rest n).length = if rest.length ≤ 55 then 64 else 128 := by
  unfold padM padZ
  simp
  split <;> omega
def lenV : Value → Nat
  | .slice _ m _ => m
  | _ => 0
/-- The end of a text, being made. -/
def EndR (w : World) (base : Nat) (bs : List UInt8) (v : Value) : Prop := ∃ A c, v = .slice A bs.length c ∧ Own w base 5 A bs.length c bs
def SmA (w W1 : World) (rest : List UInt8) (ev : Value) (wr : World) : Prop :=
  ∃ z, rest.length + 1 + z ≤ (if rest.length ≤ 55 then 56 else 120) ∧ EndR wr (w.heap.size + 1) (rest ++ [128] ++ List.replicate z 0) ev ∧ Below (w.heap.size + 1) W1 wr ∧ w.heap.size + 1 ≤ wr.heap.size
def SmB (w W1 : World) (rest : List UInt8) (n : Nat) (ev iv : Value) (wr : World) : Prop :=
  ∃ i : Nat, i ≤ 8 ∧ iv = .int .i64 (i : Int) ∧ EndR wr (w.heap.size + 1) (rest ++ [128] ++ List.replicate (padZ rest.length) 0 ++ (List.range i).map (lenB n)) ev ∧ Below (w.heap.size + 1) W1 wr ∧ w.heap.size + 1 ≤ wr.heap.size
/-- Words in a block of their own, and what is left of the text. -/
def SmC (w W1 : World) (s : S8w) (hb : Nat) (tot : List UInt8) (ev : Value) (wr : World) : Prop :=
  ∃ (k : Nat) (A : Option Addr) (m c : Nat), 64 * k ≤ tot.length ∧ m = tot.length - 64 * k ∧ m ≤ c ∧ ev = .slice A m c ∧ BAt wr A (tot.drop (64 * k)) ∧ (∀ ad, A = some ad → ad.block ≠ hb) ∧ Blk wr hb 144 (piecesM s tot k).cells.toArray ∧ Below (w.heap.size + 1) W1 wr ∧ w.heap.size + 1 ≤ wr.heap.size
set_option maxRecDepth 100000 in
set_option maxHeartbeats 8000000 in
theorem sum_any (w : World) (g : Nat) (s : S8w) (A : Option Addr) (m c : Nat) (rest : List UInt8) (n : Nat) (hk : Blk w g 147 (StC s (.slice A m c) n).toArray) (hf : Far w g A rest) (hml : rest.length = m) (hm64 : m < 64) (hn : n ≤ 1000000000) (hkt : Ktab w) (hgk : 1 < w.heap.size) :
    Calls Tryd.prog 69 #[.pointer (some ⟨g, 0, none⟩)] w fun e w' => e = .returned (.agg (cellsOf (sumM s rest n))) ∧ Below w.heap.size w w' := by
  have hglt := hk.lt
  have hal := run_allocHash
  have hb1 := below_al' (w := w) (.cells (cellsOf z32) 44)
  have hk1 := Blk.new w 44 (cellsOf z32)
  have hb2 : Below (w.heap.size + 1) (w.alloc (.cells (cellsOf z32) 44)) ((w.alloc (.cells (cellsOf z32) 44)).alloc (.cells #[] 5)) := (Below.refl _ _).alloc (by simp) _
  have ho2 : Own ((w.alloc (.cells (cellsOf z32) 44)).alloc (.cells #[] 5)) (w.heap.size + 1) 5 (some ⟨w.heap.size + 1, 0, none⟩) 0 0 [] := Own.new (w.alloc (.cells (cellsOf z32) 44)) (w.heap.size + 1) #[] (by simp) (Nat.le_refl _) rfl rfl (by decide)
  have hs2 : w.heap.size + 1 ≤ ((w.alloc (.cells (cellsOf z32) 44)).alloc (.cells #[] 5)).heap.size := by simp
  have HW2 := Lib.hid (⟨hb2, ho2, (hf.below hb1).1.below (by simpa using hb2), hs2⟩ : _ ∧ _ ∧ _ ∧ _)
  have HW1 := Lib.hid (⟨hb1, hk1, hk.below_ hb1⟩ : _ ∧ _ ∧ _)
  obtain ⟨q0, q1, q2, q3, q4, q5, q6, q7, q8, q9⟩ := StC_cells hk
  have HK := Lib.hid hk
  have HKT := Lib.hid hkt
  have HML := Lib.hid hml
  clear hk hf hb1 hk1 hb2 ho2 hkt hml hs2
  go_enter Tryd.func69, Tryd.ntmps69
  go_wp2_with (first
    | (at_builtin
       refine wpList_append_bytes rfl (.tmp 6) (.tmp 10) _ rfl (w.heap.size + 1) _ Pl.byteTy (some ⟨w.heap.size + 1, 0, none⟩) 0 0 [] rfl HW2.out.2.1 A m c rest rfl HW2.out.2.2.1 HML.out m (Nat.zero_add m) (by omega) HW2.out.2.2.2 ?_
       intro A3 c3 w3 ho3 hg3 hb3 hA3
       have HW3 := Lib.hid (⟨HW2.out.1.trans hb3, ho3, Nat.le_trans HW2.out.2.2.2 hb3.size⟩ : _ ∧ _ ∧ _)
       have hn3 := (Blk.new w3 5 (cellsOf [128])).bat
       have HN3 := Lib.hid hn3
       clear ho3 hg3 hb3 hA3 hn3)
    | (at_builtin
       refine wpList_append_bytes rfl (.tmp 12) (.tmp 13) _ rfl (w.heap.size + 1) _ Pl.byteTy A3 m c3 ([] ++ rest) rfl (HW3.out.2.1.alloc _) (some ⟨w3.heap.size, 0, none⟩) 1 1 [128] rfl HN3.out rfl (m + 1) rfl (by omega) (by simp only [World.size_alloc]; have := HW3.out.2.2; omega) ?_
       intro A4 c4 w4 ho4 hg4 hb4 hA4
       have hs4 := hb4.size
       have hs3 := HW3.out.2.2
       simp only [World.size_alloc] at hs4
       have HW4 := Lib.hid (⟨ho4, (HW3.out.1.alloc hs3 _).trans hb4, (by omega : w.heap.size + 1 ≤ w4.heap.size)⟩ : _ ∧ _ ∧ _)
       clear hs4 hs3
       clear ho4 hg4 hb4 hA4))
  clear q0 q1 q2 q3 q4 q5 q6 q7 q8 q9
  generalize hW1 : w.alloc (.cells (cellsOf z32) 44) = W1 at *
  clear hW1
  obtain ⟨tgt, htgt⟩ : ∃ tgt, (if rest.length ≤ 55 then 56 else 120) = tgt := ⟨_, rfl⟩
  have HTG : Hid ((tgt = 56 ∨ tgt = 120) ∧ m + 1 ≤ tgt ∧ tgt < m + 1 + 64 ∧ padZ rest.length = tgt - (m + 1)) := Lib.hid (by
    have h1 := HML.out
    rw [← htgt, h1]
    unfold padZ
    by_cases h55 : m ≤ 55
    · rw [if_pos h55, if_pos h55]; omega
    · rw [if_neg h55, if_neg h55]; omega)
  have HTGT := Lib.hid htgt
  clear htgt
  go_loopw [3] (fun ev wr => SmA w W1 rest ev wr) (fun ev _ => 120 - (lenV ev))
  case atStart =>
    refine ⟨0, by rw [HTGT.out, HML.out]; exact HTG.out.2.1, ⟨A4, c4, ?_, ?_⟩, HW4.out.2⟩
    · simp [HML.out]
    · have h1 := HW4.out.1
      rw [List.nil_append] at h1
      have e : (rest ++ [128] ++ List.replicate 0 0).length = m + 1 := by simp [HML.out]
      rw [e]
      simpa using h1
  case round =>
    obtain ⟨z, hz, ⟨AE, cE, rfl, hoe⟩, hbw, hsw⟩ := hrel
    have hel : (rest ++ [128] ++ List.replicate z 0).length = m + 1 + z := by simp [HML.out]; omega
    rw [hel] at hoe ⊢
    rw [HTGT.out, HML.out] at hz
    obtain ⟨x, hx⟩ : ∃ x, m + 1 + z = x := ⟨_, rfl⟩
    rw [hx] at hoe hz ⊢
    have HE := Lib.hid (⟨hoe, hbw, hx, hz, hsw⟩ : _ ∧ _ ∧ _ ∧ _ ∧ _)
    have hrem : Int.tmod (x : Int) 64 = ((x % 64 : Nat) : Int) := by rw [Int.tmod_eq_emod_of_nonneg (by omega)]; omega
    obtain ⟨y, hy⟩ : ∃ y, x % 64 = y := ⟨_, rfl⟩
    rw [hy] at hrem
    have hmd : (x : Int) % 64 = (y : Int) := by omega
    have hy56 : (y = 56) ↔ x = tgt := by have := HTG.out; omega
    clear hoe hbw hx hz hel hsw
    by_cases h56 : y = 56
    · have HXT := Lib.hid (hy56.1 h56)
      clear hy56 hy
      subst h56
      go_wp2_with fail
      clear hrem hmd
      have HP1 : Hid (EndR wr (w.heap.size + 1) (rest ++ [128] ++ List.replicate (padZ rest.length) 0 ++ (List.range 0).map (lenB n)) (.slice AE x cE) ∧ (rest ++ [128] ++ List.replicate (padZ rest.length) 0).length = tgt) := Lib.hid (by
        have h1 := HE.out.1
        have h2 := HTG.out
        have h3 := HE.out.2.2.1
        have hz : z = padZ rest.length := by have := HXT.out; omega
        rw [← hz]
        have hl : (rest ++ [128] ++ List.replicate z 0).length = x := h1.len
        refine ⟨⟨AE, cE, ?_, ?_⟩, by rw [hl, HXT.out]⟩
        · rw [List.range_zero, List.map_nil, List.append_nil, hl]
        · rw [List.range_zero, List.map_nil, List.append_nil, hl]
          exact h1)
      have hw4s := HE.out.2.2.2.2
      go_loopw [3, 22] (fun ev iv wr => SmB w W1 rest n ev iv wr) (fun _ iv _ => 8 - (intOf iv).toNat)
      case atStart => exact ⟨0, by decide, rfl, HP1.out.1, HE.out.2.1, hw4s⟩
      case round =>
        obtain ⟨i, hi, rfl, ⟨AF, cF, rfl, hof⟩, hbf, hsf⟩ := hrel
        have hfl : (rest ++ [128] ++ List.replicate (padZ rest.length) 0 ++ (List.range i).map (lenB n)).length = tgt + i := by rw [List.length_append, HP1.out.2]; simp
        rw [hfl] at hof ⊢
        have HF := Lib.hid (⟨hof, hbf, hsf⟩ : _ ∧ _ ∧ _)
        obtain ⟨pre, hpre⟩ : ∃ pre, rest ++ [128] ++ List.replicate (padZ rest.length) 0 ++ (List.range i).map (lenB n) = pre := ⟨_, rfl⟩
        have hkg := HW1.out.2.2.below hbf (Nat.lt_succ_of_lt hglt)
        obtain ⟨q0, q1, q2, q3, q4, q5, q6, q7, q8, q9⟩ := StC_cells hkg
        clear hof hbf hsf hfl
        by_cases hlt : i < 8
        · have hltI : (i : Int) < 8 := by omega
          obtain ⟨n8, hn8⟩ : ∃ n8, 8 * n = n8 := ⟨_, rfl⟩
          have e1 : IntKind.u64.wrap (8 * (n : Int)) = (n8 : Int) := by rw [show 8 * (n : Int) = (n8 : Int) by omega]; exact IntWalk.u64_in _ (by omega)
          have e2 : IntKind.i64.wrap (8 * (i : Int)) = 8 * (i : Int) := IntWalk.i64_in _ (by omega)
          obtain ⟨sh, hsh⟩ : ∃ sh, 56 - 8 * i = sh := ⟨_, rfl⟩
          have e3 : IntKind.i64.wrap (56 - 8 * (i : Int)) = (sh : Int) := by rw [show 56 - 8 * (i : Int) = (sh : Int) by omega]; exact IntWalk.i64_in _ (by omega)
          have hsh56 : sh ≤ 56 := by omega
          have hby : (n8 : Int) / 2 ^ sh % 256 = V8 (lenB n i) := by
            unfold lenB
            rw [hn8, hsh]
            show _ = ((UInt8.ofNat (n8 / 2 ^ sh)).toNat : Int)
            rw [UInt8.toNat_ofNat']
            rw [show ((2 : Int) ^ sh) = ((2 ^ sh : Nat) : Int) by simp]
            omega
          have hn3 : BAt (wr.alloc (.cells #[.int .u8 ((n8 : Int) / 2 ^ sh % 256)] 5)) (some ⟨wr.heap.size, 0, none⟩) [lenB n i] := by
            rw [hby]
            exact (Blk.new wr 5 (cellsOf [lenB n i])).bat
          have HN3 := Lib.hid hn3
          have HLT := Lib.hid hlt
          clear hn3 hn8 hsh hby
          rw [hpre] at HF
          have HPRE := Lib.hid hpre
          clear hpre
          go_wp2_with
            (at_builtin
             refine wpList_append_bytes rfl (.tmp 25) (.tmp 36) _ rfl (w.heap.size + 1) _ Pl.byteTy AF (tgt + i) cF pre rfl (HF.out.1.alloc _) (some ⟨wr.heap.size, 0, none⟩) 1 1 [lenB n i] rfl HN3.out rfl (tgt + i + 1) rfl (by have := HTG.out; omega) (by simp only [World.size_alloc]; have := HF.out.2.2; omega) ?_
             intro A5 c5 w5 ho5 hg5 hb5 hA5
             have hs5 := hb5.size
             have hs4 := HF.out.2.2
             simp only [World.size_alloc] at hs5
             have HW5 := Lib.hid (⟨ho5, (HF.out.2.1.alloc hs4 _).trans hb5, (by omega : w.heap.size + 1 ≤ w5.heap.size)⟩ : _ ∧ _ ∧ _)
             clear hs4 hs5 ho5 hg5 hb5 hA5)
          go_roundw
          case rel =>
            have hlen : (rest ++ [128] ++ List.replicate (padZ rest.length) 0 ++ (List.range (i + 1)).map (lenB n)).length = tgt + i + 1 := by rw [List.length_append, HP1.out.2]; simp; omega
            refine ⟨i + 1, HLT.out, by simp, ⟨A5, c5, by rw [hlen], ?_⟩, HW5.out.2⟩
            rw [hlen, List.range_succ, List.map_append, ← List.append_assoc, HPRE.out]
            exact HW5.out.1
          case measure =>
            have := HLT.out
            simp [intOf]
            omega
        · have hltI : ¬ (i : Int) < 8 := by omega
          have HI8 : Hid (i = 8) := Lib.hid (by omega)
          have htot : pre = padM rest n := by rw [← hpre, HI8.out]; rfl
          rw [hpre, htot] at HF
          clear hpre htot hlt hi
          obtain ⟨pad, hpad⟩ : ∃ pad, padM rest n = pad := ⟨_, rfl⟩
          rw [hpad] at HF
          have HPAD := Lib.hid hpad
          have hlen : pad.length = tgt + i := HF.out.1.len
          have HLEN := Lib.hid hlen
          have hfar : Far wr wr.heap.size AF pad := ⟨HF.out.1.bat, fun ad e => by
            rcases HF.out.1.form with ⟨h0, _⟩ | ⟨g', h0, _, h1⟩
            · rw [h0] at e; cases e
            · rw [h0] at e; injection e with e; subst e; exact Nat.ne_of_lt h1⟩
          have HFAR := Lib.hid hfar
          have HZ := Lib.hid (Blk.new wr 144 zw.toArray)
          have HCP := Lib.hid HF.out.1.cap_le.1
          clear hpad hlen hfar
          go_wp2_with
            (refine wpList_store_all rfl 144 (.tmp 5) (.tmp 42) rfl wr.heap.size 144 zw s.cells rfl rfl HZ.out rfl (by kernel_rfl) (S8w.one _) ?_
             intro w6 hb6 hg6 hz6)
          have hfar6 := (HFAR.out.below (below_al' (w := wr) (.cells zw.toArray 144))).grown hg6
          have hb61 : Below (w.heap.size + 1) W1 w6 := (HF.out.2.1.alloc HF.out.2.2 (.cells zw.toArray 144)).grown hg6 (by simp only [World.size_alloc]; have := HF.out.2.2; omega) (fun k hk => by injection hk with hk; have := HF.out.2.2; omega)
          have hs6 : w.heap.size + 1 ≤ w6.heap.size := by rw [hz6]; simp only [World.size_alloc]; have := HF.out.2.2; omega
          have HW6 := Lib.hid (⟨hfar6, hb61, hs6, hb6⟩ : _ ∧ _ ∧ _ ∧ _)
          have hwr1 := HF.out.2.2
          clear hfar6 hb61 hs6 hb6 hg6 hz6 q0 q1 q2 q3 q4 q5 q6 q7 q8 q9
          obtain ⟨hb, hhb⟩ : ∃ hb, wr.heap.size = hb := ⟨_, rfl⟩
          rw [hhb] at HW6 hwr1 ⊢
          have HHB := Lib.hid hhb
          clear hhb
          go_loopw [3] (fun ev wr => SmC w W1 s hb pad ev wr) (fun ev _ => lenV ev)
          case atStart =>
            refine ⟨0, AF, tgt + i, cF, by omega, by have := HLEN.out; omega, HCP.out, rfl, by simpa using HW6.out.1.1, HW6.out.1.2, HW6.out.2.2.2, HW6.out.2.1, HW6.out.2.2.1⟩
          case round =>
            obtain ⟨k, A6, m6, c6, hk1, hk2, hk3, rfl, hk5, hk6, hk7, hk8, hk9⟩ := hrel
            have HR := Lib.hid (⟨hk1, hk2, hk5, hk6, hk7, hk8, hk9⟩ : _ ∧ _ ∧ _ ∧ _ ∧ _ ∧ _ ∧ _)
            obtain ⟨r, hr⟩ : ∃ r, piecesM s pad k = r := ⟨_, rfl⟩
            rw [hr] at hk7
            have HRR := Lib.hid hr
            have q0 := hk7.cell 0
            have q1 := hk7.cell 1
            have q2 := hk7.cell 2
            have q3 := hk7.cell 3
            have q4 := hk7.cell 4
            have q5 := hk7.cell 5
            have q6 := hk7.cell 6
            have q7 := hk7.cell 7
            simp [S8w.cells] at q0 q1 q2 q3 q4 q5 q6 q7
            have hm64 : m6 % 64 = 0 := by have := HTG.out; have := HI8.out; have := HLEN.out; omega
            clear hk1 hk2 hk5 hk6 hk7 hk8 hk9 hr
            by_cases hgt : 0 < m6
            · have hgI : (0 : Int) < (m6 : Int) := by omega
              have h64 : 64 ≤ m6 := by omega
              have hcut1 := fun W => run_cut_h (P := Tryd.prog) 38 5 Pl.byteTy A6 m6 c6 .i64 64 64 rfl (by omega) W
              have hcut2 := fun W => run_cut_l (P := Tryd.prog) 38 5 Pl.byteTy A6 m6 c6 .i64 64 64 rfl h64 W
              obtain ⟨x0, x1, x2, x3, x4, x5, x6⟩ := HR.out
              obtain ⟨ad, hA⟩ : ∃ ad, A6 = some ad := by
                obtain ⟨ad, e, _⟩ := x2 (by rw [List.length_drop]; omega)
                exact ⟨ad, e⟩
              subst hA
              have hbd : Below wr.heap.size wr wr.drew := below_drewN (Below.refl _ _) 1
              have hkt1 : Ktab wr := (HKT.out.below HW1.out.1 hgk).below x5 (by omega)
              have HPC := Lib.hid (piece_any wr.drew r ad c6 ((pad.drop (64 * k)).take 64) ((x2.below hbd).take 64) (by rw [List.length_take, List.length_drop]; omega) (hkt1.below hbd (by show _ < wr.heap.size; omega)) (by show _ < wr.heap.size; omega))
              have HBD := Lib.hid hbd
              have hfar : Far wr hb (cutA (some ad) c6 64) ((pad.drop (64 * k)).drop 64) := Far.drop (m := m6) ⟨x2, x3⟩ (by rw [List.length_drop]; omega) h64
              obtain ⟨AC, hAC⟩ : ∃ AC, cutA (some ad) c6 64 = AC := ⟨_, rfl⟩
              rw [hAC] at hfar hcut2
              have HFR := Lib.hid hfar
              clear x0 x1 x2 x3 x4 x5 x6 hbd hkt1 hfar hAC
              go_wp2_with fail
              refine Ord.region_ord [] [0, 1, 2, 3, 4] (by kernel_rfl) (by kernel_rfl) (by kernel_rfl) (by kernel_rfl) (Ord.ord_all [_, _, _, _, _] rfl (by kernel_rfl) ?_)
              go_wp2_with fail
              refine HPC.out.mono ?_
              rintro e w7 ⟨rfl, hb7⟩
              have hb7' : Below wr.heap.size wr w7 := HBD.out.trans hb7
              have HK7 := Lib.hid (⟨HR.out.2.2.2.2.1.below_ hb7', HFR.out.below hb7', HR.out.2.2.2.2.2.1.trans (hb7'.mono HR.out.2.2.2.2.2.2), Nat.le_trans HR.out.2.2.2.2.2.2 hb7'.size⟩ : _ ∧ _ ∧ _ ∧ _)
              clear hb7 hb7' HPC q0 q1 q2 q3 q4 q5 q6 q7
              go_wp2_with
                (refine wpList_store_all rfl 144 (.tmp 5) (.tmp 49) rfl hb 144 (piecesM s pad k).cells (pieceM r ((pad.drop (64 * k)).take 64)).cells rfl rfl HK7.out.1 ((S8w.len _).trans (S8w.len _).symm) (by rw [S8w.len]; kernel_rfl) (S8w.one _) ?_
                 intro w8 hb8 hg8 hz8)
              have HK8 := Lib.hid (⟨hb8, HK7.out.2.1.grown hg8, HK7.out.2.2.1.grown hg8 HK7.out.2.2.2 (fun k hk => by injection hk with hk; omega), (by rw [hz8]; exact HK7.out.2.2.2 : w.heap.size + 1 ≤ w8.heap.size)⟩ : _ ∧ _ ∧ _ ∧ _)
              clear hb8 hg8 hz8
              refine Ord.nx_end ?_
              go_wp2_with fail
              go_roundw
              case rel =>
                obtain ⟨x0, x1, x2, x3, x4, x5, x6⟩ := HR.out
                refine ⟨k + 1, AC, m6 - 64, c6 - 64, by omega, by omega, by omega, rfl, ?_, HK8.out.2.1.2, ?_, HK8.out.2.2.1, HK8.out.2.2.2⟩
                · have h1 := HK8.out.2.1.1
                  rw [List.drop_drop] at h1
                  rw [show 64 * (k + 1) = 64 * k + 64 by omega]
                  exact h1
                · show Blk w8 hb _ (pieceM (piecesM s pad k) ((pad.drop (64 * k)).take 64)).cells.toArray
                  rw [HRR.out]
                  exact HK8.out.1
              case measure =>
                simp [lenV]
                omega
            · have hgI : ¬ (0 : Int) < (m6 : Int) := by omega
              have hkk : pad.length / 64 = k := by have := HR.out; omega
              have HSUM : Hid (sumM s rest n = toldM r) := Lib.hid (by unfold sumM; rw [HPAD.out, hkk, HRR.out])
              have HTO := Lib.hid (told_any wr r)
              have hkz : Blk wr w.heap.size 44 (cellsOf z32) := HW1.out.2.1.below HR.out.2.2.2.2.2.1 (Nat.lt_succ_self _)
              have HKZ := Lib.hid hkz
              have HBT : Hid (Below w.heap.size w wr) := Lib.hid (HW1.out.1.trans (HR.out.2.2.2.2.2.1.mono (Nat.le_succ _)))
              clear hkk hkz
              go_wp2_with fail
              refine HTO.out.mono ?_
              rintro e w7 ⟨rfl, hb7⟩
              have HK7 := Lib.hid (⟨HKZ.out.below_ hb7, HBT.out.trans (hb7.mono HBT.out.size)⟩ : _ ∧ _)
              clear hb7 q0 q1 q2 q3 q4 q5 q6 q7
              go_wp2_with
                (refine wpList_store_hash rfl (.tmp 2) (.tmp 53) rfl w.heap.size _ z32 (toldM r) rfl rfl HK7.out.1 rfl (toldM_len r) ?_
                 intro w9 hk9 hg9 hz9)
              have HB9 := Lib.hid (HK7.out.2.grown hg9 HK7.out.2.size (fun k hk => by injection hk with hk; omega))
              have hld := load_hash hk9 (toldM_len r)
              refine bodyPost_ret (v := .agg (cellsOf (toldM r))) ?_ rfl ⟨by rw [HSUM.out], HB9.out⟩
              simp [results, Tryd.results69, asAddr, Act.put, hld]
    · have hyI : ¬ (y : Int) = 56 := by omega
      have hn3 := (Blk.new wr 5 (cellsOf [0])).bat
      have HN3 := Lib.hid hn3
      have hwx : x < tgt := by have := HE.out.2.2.2.1; omega
      clear hy56
      clear hn3
      go_wp2_with
        (at_builtin
         refine wpList_append_bytes rfl (.tmp 19) (.tmp 20) _ rfl (w.heap.size + 1) _ Pl.byteTy AE x cE (rest ++ [128] ++ List.replicate z 0) rfl (HE.out.1.alloc _) (some ⟨wr.heap.size, 0, none⟩) 1 1 [0] rfl HN3.out rfl (x + 1) rfl (by have := HTG.out; omega) (by simp only [World.size_alloc]; have := HE.out.2.2.2.2; omega) ?_
         intro A5 c5 w5 ho5 hg5 hb5 hA5
         have hs5 := hb5.size
         have hs4 := HE.out.2.2.2.2
         simp only [World.size_alloc] at hs5
         have HW5 := Lib.hid (⟨ho5, (HE.out.2.1.alloc hs4 _).trans hb5, (by omega : w.heap.size + 1 ≤ w5.heap.size)⟩ : _ ∧ _ ∧ _)
         clear hs4 hs5 ho5 hg5 hb5 hA5)
      go_roundw
      case rel =>
        have hx := HE.out.2.2.1
        refine ⟨z + 1, by rw [HTGT.out, HML.out]; omega, ⟨A5, c5, ?_, ?_⟩, HW5.out.2⟩
        · have e : (rest ++ [128] ++ List.replicate (z + 1) 0).length = x + 1 := by simp [HML.out]; omega
          rw [e]
        · have e : (rest ++ [128] ++ List.replicate (z + 1) 0).length = x + 1 := by simp [HML.out]; omega
          rw [e, List.replicate_succ', ← List.append_assoc]
          exact HW5.out.1
      case measure =>
        have := HTG.out
        simp [lenV]
        omega
end Go.Proofs.YtloffgoenaomkaaDoor.Sha
