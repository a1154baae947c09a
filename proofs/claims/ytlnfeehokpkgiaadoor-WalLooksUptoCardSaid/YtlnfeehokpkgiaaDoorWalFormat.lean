/- The journal's 'Format'. -/
import Derived.Test.YtlnfeehokpkgiaaDoorWalLay
namespace Go.Proofs.YtlnfeehokpkgiaaDoor.Wal
open Go Go.RowKit Mem Pl Disk Crc _root_.Go.Proofs.YtlnfeehokpkgiaaDoor.Frame
theorem newest_at (f : Nat → List UInt8) : (newestM f 2).2.2 ≤ 1 := by
  show (nwM (nwM (0, 0, 0) 0 (f 0)) 1 (f 1)).2.2 ≤ 1
  unfold nwM
  split <;> split <;> simp
theorem tab_frm {B : Nat} {w w' : World} {F F' : Nat → Prop} {a n n0 dev : Nat} {pm pm' : PM} (ht : Tab w) (hgc : 0 < B) (hB : B ≤ w.heap.size) (hs : St B w F a pm n0) (h : Frm B w F a pm n dev F' pm' w') : Tab w' :=
  ht.below (B := B) ((h.mods.mono hB fun _ _ hf => hf).below fun k hk hf => by have := (hs.lt k hf).1; omega) hgc
theorem mods_cell {B : Nat} {F : Nat → Prop} {w w' : World} {p : Addr} (hm : Mods B F w w') (hB : p.block < B) (hn : ¬ F p.block) : w'.cell? p = w.cell? p := by
  simp only [World.cell?]
  rw [hm.keep _ hB hn]
def pendF (j : Nat) : Ws := (List.range j).map fun i => (2 + i, zeros)
/-- The disk ahead of the i-th write. -/
def fmtS (N last : Nat) (H : List (List UInt8)) (ws : Ws) (i : Nat) : List (List UInt8) × Ws :=
  if i = 0 then (H, ws) else if i = 1 then ((setAll ws H).set (1 - last) zeros, []) else if i < N then (((setAll ws H).set (1 - last) zeros).set last zeros, pendF (i - 2)) else (List.replicate N zeros, [])
def atF (last i : Nat) : Nat := if i = 0 then 1 - last else if i = 1 then last else i
theorem fmt_whole {N last : Nat} {H : List (List UInt8)} {ws : Ws} (hl : H.length = N) (h8 : 8 ≤ N) (hla : last ≤ 1) : setAll (pendF (N - 2)) (((setAll ws H).set (1 - last) zeros).set last zeros) = List.replicate N zeros := by
  have hlen : (((setAll ws H).set (1 - last) zeros).set last zeros).length = N := by rw [List.length_set, List.length_set, setAll_len, hl]
  refine List.eq_replicate_iff.2 ⟨by rw [setAll_len, hlen], fun b hb => ?_⟩
  obtain ⟨k, hk, e⟩ := List.getElem_of_mem hb
  rw [setAll_len, hlen] at hk
  have hs : secs (setAll (pendF (N - 2)) (((setAll ws H).set (1 - last) zeros).set last zeros)) k = b := by
    unfold secs
    rw [List.getD_eq_getElem?_getD, List.getElem?_eq_getElem (by rw [setAll_len, hlen]; exact hk), e]
    rfl
  rw [← hs, secs_all (by rw [hlen]; exact hk)]
  rcases last_or (pendF (N - 2)) k (secs (((setAll ws H).set (1 - last) zeros).set last zeros) k) with ⟨h1, h2⟩ | ⟨x, hx, h1, h2⟩
  · rw [h1, secs_set (by rw [List.length_set, setAll_len, hl]; omega), secs_set (by rw [setAll_len, hl]; omega)]
    split
    · rfl
    · split
      · rfl
      · exfalso
        refine h2 (2 + (k - 2), zeros) (List.mem_map.2 ⟨k - 2, List.mem_range.2 (by omega), rfl⟩) ?_
        show 2 + (k - 2) = k
        omega
  · rw [h2]
    obtain ⟨i, _, e⟩ := List.mem_map.1 hx
    rw [← e]
/-- A write of noughts, and, at the first two and the last, a flush. -/
theorem fmt_next {N last i : Nat} {H : List (List UInt8)} {ws : Ws} (hl : H.length = N) (h8 : 8 ≤ N) (hla : last ≤ 1) (hi : i < N) :
    (¬ (i < 2 ∨ i = N - 1) → fmtS N last H ws (i + 1) = ((fmtS N last H ws i).1, (fmtS N last H ws i).2 ++ [(atF last i, zeros)])) ∧
    ((i < 2 ∨ i = N - 1) → fmtS N last H ws (i + 1) = (setAll ((fmtS N last H ws i).2 ++ [(atF last i, zeros)]) (fmtS N last H ws i).1, [])) ∧
    FmtCut N last H ws (fmtS N last H ws i).1 (fmtS N last H ws i).2 ∧ FmtCut N last H ws (fmtS N last H ws i).1 ((fmtS N last H ws i).2 ++ [(atF last i, zeros)]) := by
  have hp : ∀ j, pendF (j + 1) = pendF j ++ [(2 + j, zeros)] := fun j => by
    unfold pendF
    rw [List.range_succ, List.map_append]
    rfl
  rcases (by omega : i = 0 ∨ i = 1 ∨ 2 ≤ i) with rfl | rfl | h2
  · refine ⟨fun h => absurd (.inl (by omega)) h, fun _ => ?_, .a, .b⟩
    show ((setAll ws H).set (1 - last) zeros, []) = _
    rw [setAll_append]
    rfl
  · refine ⟨fun h => absurd (.inl (by omega)) h, fun _ => ?_, .c, .d⟩
    unfold fmtS
    rw [if_neg (by omega), if_neg (by omega), if_pos (by omega)]
    rfl
  · have e1 : fmtS N last H ws i = (((setAll ws H).set (1 - last) zeros).set last zeros, pendF (i - 2)) := by
      unfold fmtS
      rw [if_neg (by omega), if_neg (by omega), if_pos hi]
    have e2 : atF last i = 2 + (i - 2) := by
      unfold atF
      rw [if_neg (by omega), if_neg (by omega)]
      omega
    rw [e1, e2, ← hp]
    refine ⟨fun h => ?_, fun h => ?_, .e _, .e _⟩
    · unfold fmtS
      rw [if_neg (by omega), if_neg (by omega), if_pos (by omega), show i + 1 - 2 = i - 2 + 1 by omega]
    · obtain rfl : i = N - 1 := by omega
      unfold fmtS
      rw [if_neg (by omega), if_neg (by omega), if_neg (by omega)]
      show (List.replicate N zeros, []) = (setAll (pendF (N - 1 - 2 + 1)) _, [])
      rw [show N - 1 - 2 + 1 = N - 2 by omega, fmt_whole hl h8 hla]
def ordV (last i : Nat) : List Value := (List.range i).map fun j => .int .i64 (atF last j : Int)
theorem ordV_len (last i : Nat) : (ordV last i).length = i := by simp [ordV]
theorem ordV_next (last i : Nat) : ordV last (i + 1) = ordV last i ++ [.int .i64 (atF last i : Int)] := by
  unfold ordV
  rw [List.range_succ, List.map_append]
  rfl
theorem i64Ty : ElTy Tryd.prog 29 3 1 8 (.int .i64 0) := ⟨Tryd.underlying29, by kernel_rfl, by kernel_rfl, by decide⟩
/-- The row of sectors is made. -/
def OrdR (w : World) (N last : Nat) (ov iv : Value) (wr : World) : Prop :=
  ∃ (i : Nat) (A : Option Addr) (c : Nat), 2 ≤ i ∧ i ≤ N ∧ iv = .int .i64 (i : Int) ∧ ov = .slice A i c ∧ OwnG wr w.heap.size 3 1 A i c (ordV last i) ∧ Below w.heap.size w wr
/-- What 'Format' leaves. -/
def FmtP (B : Nat) (w : World) (F : Nat → Prop) (a : Nat) (pm : PM) (n dev N : Nat) (H : List (List UInt8)) (ws : Ws) (e : Ending) (w' : World) : Prop :=
  ∃ (F' : Nat → Prop) (pm' : PM), Frm B w F a pm (n + 2 * N + 2) dev F' pm' w' ∧
    ((e = .returned (.int .i64 0) ∧ Disk pm' dev N (freshH N) [] ∧ pm'.off = false) ∨
     (e = .returned (.int .i64 2) ∧ pm.fuse ≠ none ∧ pm'.off = true ∧ ∃ H' ws', Disk pm' dev N H' ws' ∧ FmtCut N (newestM (virt H ws) 2).2.2 H ws H' ws'))
def FmtR (B : Nat) (w : World) (F : Nat → Prop) (a : Nat) (pm : PM) (n dev N last : Nat) (H : List (List UInt8)) (ws : Ws) (g _c : Nat) (iv : Value) (wr : World) : Prop :=
  ∃ (i : Nat) (F' : Nat → Prop) (pm' : PM), i ≤ N ∧ iv = .int .i64 (i : Int) ∧ Frm B w F a pm (n + 2 * i) dev F' pm' wr ∧ Disk pm' dev N (fmtS N last H ws i).1 (fmtS N last H ws i).2 ∧ pm'.off = false ∧
    (∀ j u, (ordV last N)[j]? = some u → wr.cell? ⟨g, j, none⟩ = some u) ∧ g < wr.heap.size ∧ ¬ F' g
theorem format_no {w : World} {F : Nat → Prop} {a : Nat} {pm : PM} (hp : PlantAt w F a pm) (hok : pm.Ok) (dev : Int) (hno : ¬ (0 ≤ dev ∧ dev < (pm.disks.length : Int))) :
    Calls Tryd.prog 14 #[.pointer (some ⟨a, 0, none⟩), .int .i64 dev] w fun e w' => e = .returned (.int .i64 1) ∧ Below w.heap.size w w' := by
  have H1 := Lib.hid (disk_no hp hok dev hno)
  clear hp hok hno
  go_enter Tryd.func14, Tryd.ntmps14
  go_wp2_with fail
  refine H1.out.mono ?_
  rintro e w1 ⟨rfl, hb1⟩
  go_wp2_with fail
  go_ret
  exact ⟨rfl, hb1⟩
theorem format_small {B : Nat} {w : World} {F : Nat → Prop} {a : Nat} {pm : PM} {n dev N : Nat} {H : List (List UInt8)} {ws : Ws} (hst : St B w F a pm n) (hd : Disk pm dev N H ws) (hn : n ≤ 1000000000) (h8 : N < 8) :
    Calls Tryd.prog 14 #[.pointer (some ⟨a, 0, none⟩), .int .i64 (dev : Int)] w fun e w' => e = .returned (.int .i64 1) ∧ Below w.heap.size w w' := by
  have H1 := Lib.hid (disk_on hst hd hn)
  clear hst hd
  go_enter Tryd.func14, Tryd.ntmps14
  go_wp2_with fail
  refine H1.out.mono ?_
  rintro e w1 ⟨⟨h, _⟩ | ⟨_, rfl⟩, hb1⟩
  · omega
  · go_wp2_with fail
    go_ret
    exact ⟨rfl, hb1⟩
set_option maxRecDepth 100000 in
set_option maxHeartbeats 8000000 in
theorem format_on {B : Nat} {w : World} {F : Nat → Prop} {a : Nat} {pm : PM} {n dev N : Nat} {H : List (List UInt8)} {ws : Ws} (hst : St B w F a pm n) (hd : Disk pm dev N H ws) (hB : B ≤ w.heap.size) (hn : n ≤ 800000000) (hon : pm.off = false) (h8 : 8 ≤ N)
    (ht : Tab w) (hgc : 0 < B) :
    Calls Tryd.prog 14 #[.pointer (some ⟨a, 0, none⟩), .int .i64 (dev : Int)] w (FmtP B w F a pm n dev N H ws) := by
  have hN4 := (hd.size hst.ok).2
  have hHl := hd.len hst.ok
  have hla := newest_at (virt H ws)
  have HDK := Lib.hid (disk_on hst hd (by omega))
  have HST := Lib.hid hst
  have HD := Lib.hid hd
  have HON := Lib.hid hon
  have HT := Lib.hid ht
  have HHL := Lib.hid hHl
  have hmk := run_make64
  clear hst hd hon ht hHl
  go_enter Tryd.func14, Tryd.ntmps14
  go_wp2_with fail
  refine HDK.out.mono ?_
  rintro e w1 ⟨⟨_, rfl⟩ | ⟨h, _⟩, hb1⟩
  · have HB1 := Lib.hid hb1
    have HNW := Lib.hid (newest_on (HST.out.below hb1) HD.out (by omega) HON.out (by omega) (HT.out.below hb1 (Nat.lt_of_lt_of_le hgc hB)) (Nat.lt_of_lt_of_le (Nat.lt_of_lt_of_le hgc hB) hb1.size))
    obtain ⟨G, hG⟩ : ∃ G, (newestM (virt H ws) 2).1 = G := ⟨_, rfl⟩
    obtain ⟨E, hE⟩ : ∃ E, (newestM (virt H ws) 2).2.1 = E := ⟨_, rfl⟩
    obtain ⟨last, hlast⟩ : ∃ l, (newestM (virt H ws) 2).2.2 = l := ⟨_, rfl⟩
    rw [hG, hE, hlast] at HNW
    rw [hlast] at hla
    have HLAST := Lib.hid hlast
    clear hb1 HDK hG hE hlast
    go_wp2_with fail
    refine HNW.out.mono ?_
    rintro e w2 ⟨rfl, hb2⟩
    have HB2 := Lib.hid (HB1.out.trans (hb2.mono HB1.out.size))
    have hsub : (1 : Int) - (last : Int) = ((1 - last : Nat) : Int) := by omega
    have HO2 : Hid (OwnG (w2.alloc (.cells #[.int .i64 ((1 - last : Nat) : Int), .int .i64 (last : Int)] 3)) w.heap.size 3 1 (some ⟨w2.heap.size, 0, none⟩) 2 2 (ordV last 2)) := Lib.hid (OwnG.of_blk (xs := ordV last 2) (Blk.new w2 _ _) HB2.out.size (by simp [ordV]) (by decide))
    have HB3 := Lib.hid (HB2.out.trans ((below_al' (w := w2) (.cells #[.int .i64 ((1 - last : Nat) : Int), .int .i64 (last : Int)] 3)).mono HB2.out.size))
    clear hb2 HNW
    go_wp2_with fail
    go_loopw [10, 11] (fun ov iv wr => OrdR w N last ov iv wr) (fun _ iv _ => N - (intOf iv).toNat)
    case atStart => exact ⟨2, _, 2, Nat.le_refl _, by omega, rfl, rfl, HO2.out, HB3.out⟩
    case round =>
      obtain ⟨i, A, c, h2i, hi, rfl, rfl, ho, hbw⟩ := hrel
      have HO := Lib.hid ho
      have HBW := Lib.hid hbw
      clear ho hbw HO2 HB3
      by_cases hlt : i < N
      · have hiI : (i : Int) < (N : Int) := by omega
        have HNX : Hid (ordV last (i + 1) = ordV last i ++ [.int .i64 (i : Int)]) := Lib.hid (by rw [ordV_next]; unfold atF; rw [if_neg (by omega), if_neg (by omega)])
        go_wp2_with
          (at_builtin
           (refine wpList_append_g rfl (.tmp 45) (.tmp 47) _ rfl w.heap.size _ 1 8 _ i64Ty A i c _ rfl (HO.out.alloc _) ⟨wr.heap.size, 0, none⟩ 1 1 [.int .i64 (i : Int)] rfl rfl (blk_news (Blk.new wr _ _)) (by intro v hv; simp at hv; subst hv; rfl) ?c1 ?c2 ?c3 ?_
            case c1 => unfold maxLen; omega
            case c2 => omega
            case c3 => have := HBW.out.size; simp; omega
            intro A3 c3 w3 ho3 hg3 hb3 hA3
            have HO3 := Lib.hid ho3
            have HB3 := Lib.hid ((HBW.out.trans ((below_al' (w := wr) (.cells #[.int .i64 (i : Int)] 3)).mono HBW.out.size)).trans hb3)
            clear ho3 hg3 hb3 hA3))
        go_roundw
        case rel => exact ⟨i + 1, A3, c3, by omega, by omega, by simp, rfl, by rw [HNX.out]; exact HO3.out, HB3.out⟩
        case measure => simp [intOf]; omega
      · obtain rfl : i = N := by omega
        rcases HO.out.form with ⟨_, h0, _⟩ | ⟨g, rfl, hg, hgl⟩
        · omega
        have HCL : Hid (∀ j u, (ordV last i)[j]? = some u → wr.cell? ⟨g, j, none⟩ = some u) := Lib.hid fun j u hu => by
          obtain ⟨g', e, hc⟩ := HO.out.cell j u hu
          cases e
          exact hc
        have HFR : Hid (Frm B w F a pm (n + 2 * 0) dev F pm wr) := Lib.hid ((Frm.refl HST.out).below HBW.out)
        have hnF : ¬ F g := fun hF => by have := (HST.out.lt g hF).2; omega
        clear HO
        go_wp2_with fail
        go_loopw [51] (fun iv wr' => FmtR B w F a pm n dev i last H ws g c iv wr') (fun iv _ => i - (intOf iv).toNat)
        case atStart => exact ⟨0, F, pm, by omega, rfl, HFR.out, HD.out, HON.out, HCL.out, hgl, hnF⟩
        case round =>
          obtain ⟨k, F1, pm1, hk, rfl, hfr, hd1, hon1, hcl1, hgl1, hnF1⟩ := hrel
          have HF1 := Lib.hid hfr
          have HD1 := Lib.hid hd1
          have HON1 := Lib.hid hon1
          have HCL1 := Lib.hid hcl1
          clear hfr hd1 hon1 hcl1 HCL HFR
          by_cases hlt : k < i
          · have hkI : (k : Int) < (i : Int) := by omega
            obtain ⟨p, hp⟩ : ∃ p, atF last k = p := ⟨_, rfl⟩
            have hpN : p < i := by
              rw [← hp]
              unfold atF
              split
              · omega
              · split <;> omega
            have hcp : wr.cell? ⟨g, k, none⟩ = some (.int .i64 (p : Int)) := HCL1.out k _ (by simp [ordV, hlt, hp])
            have hba := below_al' (w := wr) (.cells (zeros.map B8).toArray 5)
            have hwr := St.wrote (HF1.out.st.below hba) HD1.out (Nat.le_trans (Nat.le_trans hB HF1.out.mods.size) hba.size) (by omega) HON1.out p hpN (some ⟨wr.heap.size, 0, none⟩) 64 zeros (Blk.new wr 5 (cellsOf zeros)).bat zeros_len
            have HWR := Lib.hid hwr
            obtain ⟨hnx1, hnx2, hct1, hct2⟩ := fmt_next (ws := ws) HHL.out h8 hla hlt
            rw [hp] at hnx1 hnx2 hct2
            have HNX1 := Lib.hid hnx1
            have HNX2 := Lib.hid hnx2
            have HCT1 := Lib.hid hct1
            have HCT2 := Lib.hid hct2
            have HFA := Lib.hid (HF1.out.below hba)
            have HSA : Hid ((wr.alloc (.cells (zeros.map B8).toArray 5)).heap.size = wr.heap.size + 1) := Lib.hid (by simp)
            have HCLA : Hid (∀ j u, (ordV last i)[j]? = some u → (wr.alloc (.cells (zeros.map B8).toArray 5)).cell? ⟨g, j, none⟩ = some u) := Lib.hid fun j u hu => (hba.cell (p := ⟨g, j, none⟩) hgl1).trans (HCL1.out j u hu)
            clear hwr hba hnx1 hnx2 hct1 hct2 hp
            go_wp2_with fail
            refine HWR.out.mono ?_
            rintro e w4 ⟨F4, pm4, hf4, ⟨rfl, hd4, hon4⟩ | ⟨rfl, hd4, hfu4, hoff4⟩⟩
            · have HF4 := Lib.hid (HFA.out.trans hf4)
              have HD4 := Lib.hid hd4
              have HON4 := Lib.hid hon4
              have hn4 : ¬ F4 g := fun hF => (hf4.grow g hF).elim hnF1 fun h => by rw [HSA.out] at h; omega
              have HCL4 : Hid (∀ j u, (ordV last i)[j]? = some u → w4.cell? ⟨g, j, none⟩ = some u) := Lib.hid fun j u hu => (mods_cell (p := ⟨g, j, none⟩) hf4.mods (by rw [HSA.out]; show g < _; omega) hnF1).trans (HCLA.out j u hu)
              have hgl4 : g < w4.heap.size := by have := hf4.mods.size; rw [HSA.out] at this; omega
              clear hf4 hd4 hon4 HWR hcp
              by_cases hfl : k < 2 ∨ k = i - 1
              · have HFL := Lib.hid (St.flushed HF4.out.st HD4.out (Nat.le_trans hB HF4.out.mods.size) (by omega) HON4.out)
                have HE : Hid (fmtS i last H ws (k + 1) = _) := Lib.hid (HNX2.out hfl)
                by_cases hk2 : k < 2
                · have hk2I : (k : Int) < 2 := by omega
                  go_wp2_with fail
                  refine HFL.out.mono ?_
                  rintro e w5 ⟨F5, pm5, hf5, ⟨rfl, hd5, hon5⟩ | ⟨rfl, hd5, hfu5, hoff5⟩⟩
                  · have HF5 := Lib.hid (HF4.out.trans hf5)
                    have HD5 := Lib.hid (⟨hd5, hon5⟩ : _ ∧ _)
                    have hn5 : ¬ F5 g := fun hF => (hf5.grow g hF).elim hn4 fun h => by omega
                    have HCL5 : Hid (∀ j u, (ordV last i)[j]? = some u → w5.cell? ⟨g, j, none⟩ = some u) := Lib.hid fun j u hu => (mods_cell (p := ⟨g, j, none⟩) hf5.mods hgl4 hn4).trans (HCL4.out j u hu)
                    have hgl5 : g < w5.heap.size := Nat.lt_of_lt_of_le hgl4 hf5.mods.size
                    clear hf5 hd5 hon5 HFL
                    go_wp2_with fail
                    go_roundw
                    case rel => exact ⟨k + 1, F5, pm5, by omega, by first | (simp; done) | (simp; omega), HF5.out.more (by omega), by rw [HE.out]; exact HD5.out.1, HD5.out.2, HCL5.out, hgl5, hn5⟩
                    case measure => simp [intOf]; omega
                  · have HF5 := Lib.hid ((HF4.out.trans hf5).more (show n + 2 * k + 1 + 1 ≤ n + 2 * i + 2 by omega))
                    have HD5 := Lib.hid (⟨hd5, fun e => hfu5 (HF4.out.fuse e), hoff5⟩ : _ ∧ pm.fuse ≠ none ∧ _)
                    clear hf5 hd5 hfu5 hoff5 HFL
                    go_wp2_with fail
                    go_ret
                    exact ⟨F5, pm5, HF5.out, .inr ⟨rfl, HD5.out.2.1, HD5.out.2.2, _, _, HD5.out.1, by rw [HLAST.out]; exact HCT2.out⟩⟩
                · have hk2I : ¬ (k : Int) < 2 := by omega
                  have hkl : (k : Int) = (i : Int) - 1 := by omega
                  go_wp2_with fail
                  refine HFL.out.mono ?_
                  rintro e w5 ⟨F5, pm5, hf5, ⟨rfl, hd5, hon5⟩ | ⟨rfl, hd5, hfu5, hoff5⟩⟩
                  · have HF5 := Lib.hid (HF4.out.trans hf5)
                    have HD5 := Lib.hid (⟨hd5, hon5⟩ : _ ∧ _)
                    have hn5 : ¬ F5 g := fun hF => (hf5.grow g hF).elim hn4 fun h => by omega
                    have HCL5 : Hid (∀ j u, (ordV last i)[j]? = some u → w5.cell? ⟨g, j, none⟩ = some u) := Lib.hid fun j u hu => (mods_cell (p := ⟨g, j, none⟩) hf5.mods hgl4 hn4).trans (HCL4.out j u hu)
                    have hgl5 : g < w5.heap.size := Nat.lt_of_lt_of_le hgl4 hf5.mods.size
                    clear hf5 hd5 hon5 HFL
                    go_wp2_with fail
                    go_roundw
                    case rel => exact ⟨k + 1, F5, pm5, by omega, by first | (simp; done) | (simp; omega), HF5.out.more (by omega), by rw [HE.out]; exact HD5.out.1, HD5.out.2, HCL5.out, hgl5, hn5⟩
                    case measure => simp [intOf]; omega
                  · have HF5 := Lib.hid ((HF4.out.trans hf5).more (show n + 2 * k + 1 + 1 ≤ n + 2 * i + 2 by omega))
                    have HD5 := Lib.hid (⟨hd5, fun e => hfu5 (HF4.out.fuse e), hoff5⟩ : _ ∧ pm.fuse ≠ none ∧ _)
                    clear hf5 hd5 hfu5 hoff5 HFL
                    go_wp2_with fail
                    go_ret
                    exact ⟨F5, pm5, HF5.out, .inr ⟨rfl, HD5.out.2.1, HD5.out.2.2, _, _, HD5.out.1, by rw [HLAST.out]; exact HCT2.out⟩⟩
              · have hk2I : ¬ (k : Int) < 2 := by omega
                have hkl : ((k : Int) == (i : Int) - 1) = false := by simp; omega
                have HE : Hid (fmtS i last H ws (k + 1) = _) := Lib.hid (HNX1.out hfl)
                clear hfl
                go_wp2_with fail
                go_roundw
                case rel => exact ⟨k + 1, F4, pm4, by omega, by simp, HF4.out.more (by omega), by rw [HE.out]; exact HD4.out, HON4.out, HCL4.out, hgl4, hn4⟩
                case measure => simp [intOf]; omega
            · have HF4 := Lib.hid ((HFA.out.trans hf4).more (show n + 2 * k + 1 ≤ n + 2 * i + 2 by omega))
              have HD4 := Lib.hid (⟨hd4, fun e => hfu4 (HFA.out.fuse e), hoff4⟩ : _ ∧ pm.fuse ≠ none ∧ _)
              clear hf4 hd4 hfu4 hoff4 HWR hcp
              go_wp2_with fail
              go_ret
              exact ⟨F4, pm4, HF4.out, .inr ⟨rfl, HD4.out.2.1, HD4.out.2.2, _, _, HD4.out.1, by rw [HLAST.out]; exact HCT1.out⟩⟩
          · obtain rfl : k = i := by omega
            have hend : fmtS k last H ws k = (List.replicate k zeros, []) := by
              unfold fmtS
              rw [if_neg (by omega), if_neg (by omega), if_neg (by omega)]
            have hd2 := HD1.out
            rw [hend] at hd2
            have HLY := Lib.hid (lay_on HF1.out.st hd2 (Nat.le_trans hB HF1.out.mods.size) (by omega) HON1.out (by omega) 1 1 (by omega) (by omega) (tab_frm HT.out hgc hB HST.out HF1.out) (Nat.lt_of_lt_of_le (Nat.lt_of_lt_of_le hgc hB) HF1.out.mods.size))
            clear hd2 hend
            go_wp2_with fail
            refine HLY.out.mono ?_
            rintro e w5 ⟨F5, pm5, hf5, ⟨rfl, h1, h2⟩ | ⟨rfl, h1, h2, h3⟩⟩
            · have HF5 := Lib.hid (HF1.out.trans hf5)
              have H5 := Lib.hid (⟨h1, h2⟩ : _ ∧ _)
              clear hf5 h1 h2 HLY
              go_wp2_with fail
              go_ret
              exact ⟨F5, pm5, HF5.out, .inl ⟨rfl, H5.out.1, H5.out.2⟩⟩
            · have HF5 := Lib.hid (HF1.out.trans hf5)
              have H5 := Lib.hid (⟨h1, h2, h3⟩ : _ ∧ _ ∧ _)
              clear hf5 h1 h2 h3 HLY
              go_wp2_with fail
              go_ret
              obtain ⟨h1, h2, h3⟩ := H5.out
              refine ⟨F5, pm5, HF5.out, .inr ⟨rfl, fun e => h1 (HF1.out.fuse e), h2, ?_⟩⟩
              rw [HLAST.out]
              rcases h3 with h3 | h3
              · exact ⟨_, _, h3, .f⟩
              · exact ⟨_, _, h3, .g⟩
  · omega
end Go.Proofs.YtlnfeehokpkgiaaDoor.Wal
