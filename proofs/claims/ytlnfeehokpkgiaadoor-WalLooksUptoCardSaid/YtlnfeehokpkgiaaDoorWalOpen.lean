/- The journal's 'Open'. -/
import Derived.Test.YtlnfeehokpkgiaaDoorWalOpn
import Derived.Deep.CutRange
namespace Go.Proofs.YtlnfeehokpkgiaaDoor.Wal
open Go Go.RowKit Mem Pl Disk Crc _root_.Go.Proofs.YtlnfeehokpkgiaaDoor.Frame
theorem newest_lt (f : Nat → List UInt8) : (newestM f 2).1 < 4294967296 ∧ (newestM f 2).2.1 < 4294967296 := by
  have h0 := hdrM_lt (f 0)
  have h1 := hdrM_lt (f 1)
  show (nwM (nwM (0, 0, 0) 0 (f 0)) 1 (f 1)).1 < _ ∧ (nwM (nwM (0, 0, 0) 0 (f 0)) 1 (f 1)).2.1 < _
  unfold nwM
  split
  · split
    · exact h1
    · exact h0
  · split
    · exact h1
    · exact ⟨by show 0 < _; omega, by show 0 < _; omega⟩
/-- One more transaction is told: the row grows, the journal's numbers move on. -/
theorem opn_step {w4 w5 : World} {g a dev N G1 E nx q : Nat} {txs : List Tx} {tx : Tx} {vs : List Value} {v v5 : Value} {row : Option Nat} {J J' : Nat → Prop} (hwb : WalB w4 g a dev N ⟨G1, E, nx, txs.length + 1⟩) (hl : vs.length = txs.length)
    (hr : ∀ (k : Nat) (t : Tx), txs[k]? = some t → ∃ y, vs[k]? = some y ∧ TxAt w4 J t y) (ht : TxAt w4 J tx v)
    (hv5 : Vec w5 J' 42 1 v5 (txs.length + 1) (vs ++ [v])) (hg5 : (w4.alloc (.cells #[v] 42)).grownBy w5 row) (hr5 : row = none ∨ ∃ k cs, row = some k ∧ (g < k) ∧ (w4.alloc (.cells #[v] 42)).heap[k]? = some (Obj.cells cs 42 (0, 0)))
    (hJ : ∀ k, J k → J' k) :
    TxsAt ((w5.setCell ⟨g, 5, none⟩ (.int .i64 ((nx + q : Nat) : Int))).setCell ⟨g, 6, none⟩ (.int .u64 ((txs.length + 1 + 1 : Nat) : Int))) J' (txs ++ [tx]) v5 ∧ WalB w5 g a dev N ⟨G1, E, nx, txs.length + 1⟩ ∧
      WalB ((w5.setCell ⟨g, 5, none⟩ (.int .i64 ((nx + q : Nat) : Int))).setCell ⟨g, 6, none⟩ (.int .u64 ((txs.length + 1 + 1 : Nat) : Int))) g a dev N ⟨G1, E, nx + q, (txs ++ [tx]).length + 1⟩ := by
  have hba := below_al' (w := w4) (.cells #[v] 42)
  have s1 : ∀ e, 42 ≠ e → Same w4 w5 e := fun e hne => (Same.of_below hba e).trans (Same.grown (F := fun k => g < k) hg5 (hr5.imp id fun ⟨k, cs, h1, h2, h3⟩ => ⟨k, cs, h1, h2, h3⟩) hne)
  have hwb5 : WalB w5 g a dev N ⟨G1, E, nx, txs.length + 1⟩ := s1 _ (by decide) g _ hwb
  have hb1 : Blk (w5.setCell ⟨g, 5, none⟩ (.int .i64 ((nx + q : Nat) : Int))) g 91 _ := Blk.set_ hwb5 5 (.int .i64 ((nx + q : Nat) : Int))
  have hb2 := hb1.set_ 6 (.int .u64 ((txs.length + 1 + 1 : Nat) : Int))
  have s2 : ∀ e, 91 ≠ e → Same w5 ((w5.setCell ⟨g, 5, none⟩ (.int .i64 ((nx + q : Nat) : Int))).setCell ⟨g, 6, none⟩ (.int .u64 ((txs.length + 1 + 1 : Nat) : Int))) e := fun e hne => (Same.cell hwb5 hne 5 _).trans (Same.cell hb1 hne 6 _)
  refine ⟨?_, hwb5, ?_⟩
  · refine TxsAt.snoc (vs := vs) (u := v) (hv5.heap (s2 _ (by decide))) hl (fun k t hk => ?_) ?_
    · obtain ⟨y, hy, hty⟩ := hr k t hk
      exact ⟨y, hy, ((hty.same (s1 _ (by decide)) (s1 _ (by decide))).same (s2 _ (by decide)) (s2 _ (by decide))).mono fun k _ hk => hJ k hk⟩
    · exact ((ht.same (s1 _ (by decide)) (s1 _ (by decide))).same (s2 _ (by decide)) (s2 _ (by decide))).mono fun k _ hk => hJ k hk
  · show Blk _ _ _ _
    have e : (walCells a dev N ⟨G1, E, nx + q, (txs ++ [tx]).length + 1⟩).toArray = ((walCells a dev N ⟨G1, E, nx, txs.length + 1⟩).toArray.setIfInBounds 5 (.int .i64 ((nx + q : Nat) : Int))).setIfInBounds 6 (.int .u64 ((txs.length + 1 + 1 : Nat) : Int)) := by
      simp [walCells]
    rw [e]
    exact hb2
/-- No journal is told by that generation. -/
def badG (G : Nat) : Prop := G = 0 ∨ 4294967294 ≤ G
/-- What 'Open' leaves. -/
def OpenP (B : Nat) (w : World) (F : Nat → Prop) (a : Nat) (pm : PM) (n dev N : Nat) (H : List (List UInt8)) (ws : Ws) (e : Ending) (w' : World) : Prop :=
  ∃ (F' : Nat → Prop) (pm' : PM) (G E : Nat), Frm B w F a pm (n + 2) dev F' pm' w' ∧ G = (newestM (virt H ws) 2).1 ∧ E = (newestM (virt H ws) 2).2.1 ∧
    ((badG G ∧ e = .returned (.tuple #[.pointer none, .slice none 0 0, .int .i64 4]) ∧ Disk pm' dev N H ws ∧ pm'.off = false) ∨
     (¬ badG G ∧ ∃ txs nx, Ends (virt H ws) N E txs nx ∧
       ((∃ g v, e = .returned (.tuple #[.pointer (some ⟨g, 0, none⟩), v, .int .i64 0]) ∧ Disk pm' dev N (setAll (ws ++ [((G + 1) % 2, hdrB (G + 1) E)]) H) [] ∧ pm'.off = false ∧ w.heap.size ≤ g ∧ ¬ F' g ∧ WalB w' g a dev N ⟨G + 1, E, nx, txs.length + 1⟩ ∧
           TxsAt w' (fun k => w.heap.size ≤ k ∧ ¬ F' k ∧ k ≠ g) txs v) ∨
        (e = .returned (.tuple #[.pointer none, .slice none 0 0, .int .i64 2]) ∧ pm.fuse ≠ none ∧ pm'.off = true ∧ (Disk pm' dev N H ws ∨ Disk pm' dev N H (ws ++ [((G + 1) % 2, hdrB (G + 1) E)]))))))
theorem run_wal0 (w : World) (a dev N G1 E : Nat) : (Instr.build 91 #[(0, .pointer (some ⟨a, 0, none⟩)), (1, .int .i64 (dev : Int)), (2, .int .i64 (N : Int)), (3, .int .u64 (G1 : Int)), (4, .int .u64 (E : Int)), (5, .int .i64 2), (6, .int .u64 1)]).run Tryd.prog w = .ok (.agg (walCells a dev N ⟨G1, E, 2, 1⟩).toArray) w := by kernel_rfl
def OpnR (w2 : World) (a dev N G1 E g : Nat) (f : Nat → List UInt8) (k : Nat) (lv : Value) (wr : World) : Prop :=
  ∃ (txs : List Tx) (nx : Nat) (A : Option Addr) (c : Nat), nx + k = N ∧ Chain f N E txs nx ∧ lv = .slice A txs.length c ∧ TxsAt wr (fun j => g < j ∧ j < wr.heap.size) txs (.slice A txs.length c) ∧ WalB wr g a dev N ⟨G1, E, nx, txs.length + 1⟩ ∧ Below g w2 wr ∧ g < wr.heap.size
theorem open_no {w : World} {F : Nat → Prop} {a : Nat} {pm : PM} (hp : PlantAt w F a pm) (hok : pm.Ok) (dev : Int) (hno : ¬ (0 ≤ dev ∧ dev < (pm.disks.length : Int))) :
    Calls Tryd.prog 15 #[.pointer (some ⟨a, 0, none⟩), .int .i64 dev] w fun e w' => e = .returned (.tuple #[.pointer none, .slice none 0 0, .int .i64 1]) ∧ Below w.heap.size w w' := by
  have H1 := Lib.hid (disk_no hp hok dev hno)
  clear hp hok hno
  go_enter Tryd.func15, Tryd.ntmps15
  go_wp2_with fail
  refine H1.out.mono ?_
  rintro e w1 ⟨rfl, hb1⟩
  go_wp2_with fail
  go_ret3
  exact ⟨rfl, hb1⟩
theorem open_small {B : Nat} {w : World} {F : Nat → Prop} {a : Nat} {pm : PM} {n dev N : Nat} {H : List (List UInt8)} {ws : Ws} (hst : St B w F a pm n) (hd : Disk pm dev N H ws) (hn : n ≤ 1000000000) (h8 : N < 8) :
    Calls Tryd.prog 15 #[.pointer (some ⟨a, 0, none⟩), .int .i64 (dev : Int)] w fun e w' => e = .returned (.tuple #[.pointer none, .slice none 0 0, .int .i64 1]) ∧ Below w.heap.size w w' := by
  have H1 := Lib.hid (disk_on hst hd hn)
  clear hst hd
  go_enter Tryd.func15, Tryd.ntmps15
  go_wp2_with fail
  refine H1.out.mono ?_
  rintro e w1 ⟨⟨h, _⟩ | ⟨_, rfl⟩, hb1⟩
  · omega
  · go_wp2_with fail
    go_ret3
    exact ⟨rfl, hb1⟩
set_option maxRecDepth 100000 in
set_option maxHeartbeats 8000000 in
theorem open_on {B : Nat} {w : World} {F : Nat → Prop} {a : Nat} {pm : PM} {n dev N : Nat} {H : List (List UInt8)} {ws : Ws} (hst : St B w F a pm n) (hd : Disk pm dev N H ws) (hB : B ≤ w.heap.size) (hn : n ≤ 800000000) (hon : pm.off = false) (h8 : 8 ≤ N)
    (ht : Tab w) (hgc : 0 < B) :
    Calls Tryd.prog 15 #[.pointer (some ⟨a, 0, none⟩), .int .i64 (dev : Int)] w (OpenP B w F a pm n dev N H ws) := by
  have hN4 := (hd.size hst.ok).2
  have hgw : 0 < w.heap.size := Nat.lt_of_lt_of_le hgc hB
  have HDK := Lib.hid (disk_on hst hd (by omega))
  have HST := Lib.hid hst
  have HD := Lib.hid hd
  have HON := Lib.hid hon
  have HT := Lib.hid ht
  clear hst hd hon ht
  go_enter Tryd.func15, Tryd.ntmps15
  go_wp2_with fail
  refine HDK.out.mono ?_
  rintro e w1 ⟨⟨_, rfl⟩ | ⟨h, _⟩, hb1⟩
  · have HB1 := Lib.hid hb1
    have HNW := Lib.hid (newest_on (HST.out.below hb1) HD.out (by omega) HON.out (by omega) (HT.out.below hb1 hgw) (Nat.lt_of_lt_of_le hgw hb1.size))
    obtain ⟨G, hG⟩ : ∃ G, (newestM (virt H ws) 2).1 = G := ⟨_, rfl⟩
    obtain ⟨E, hE⟩ : ∃ E, (newestM (virt H ws) 2).2.1 = E := ⟨_, rfl⟩
    obtain ⟨last, hlast⟩ : ∃ l, (newestM (virt H ws) 2).2.2 = l := ⟨_, rfl⟩
    obtain ⟨f, hf⟩ : ∃ f, virt H ws = f := ⟨_, rfl⟩
    rw [hG, hE, hlast] at HNW
    have HGE : Hid (G = (newestM (virt H ws) 2).1 ∧ E = (newestM (virt H ws) 2).2.1) := Lib.hid ⟨hG.symm, hE.symm⟩
    have HF := Lib.hid hf
    have hGl : G < 4294967296 ∧ E < 4294967296 := by rw [← hG, ← hE]; exact newest_lt _
    obtain ⟨hGl, hEl⟩ := hGl
    clear hb1 HDK hG hE hlast hf
    go_wp2_with fail
    refine HNW.out.mono ?_
    rintro e w2 ⟨rfl, hb2⟩
    have HB2 := Lib.hid (HB1.out.trans (hb2.mono HB1.out.size))
    clear hb2 HNW
    by_cases hg0 : G = 0
    · have hb : badG G := .inl hg0
      have HB := Lib.hid hb
      have hg0I : ((G : Int) == 0) = true := by simp [hg0]
      clear hg0 hb
      go_wp2_with fail
      go_ret3
      exact ⟨F, pm, G, E, (Frm.refl (st_more HST.out (Nat.le_add_right n 2))).below HB2.out, HGE.out.1, HGE.out.2, .inl ⟨HB.out, rfl, HD.out, HON.out⟩⟩
    · by_cases hgm : 4294967294 ≤ G
      · have HB : Hid (badG G) := Lib.hid (.inr hgm)
        have hg0I : ((G : Int) == 0) = false := by simp; omega
        have hgmI : (4294967294 : Int) ≤ (G : Int) := by omega
        clear hg0
        go_wp2_with fail
        go_ret3
        exact ⟨F, pm, G, E, (Frm.refl (st_more HST.out (Nat.le_add_right n 2))).below HB2.out, HGE.out.1, HGE.out.2, .inl ⟨HB.out, rfl, HD.out, HON.out⟩⟩
      · have HB : Hid (¬ badG G) := Lib.hid fun h => h.elim hg0 hgm
        have hg0I : ((G : Int) == 0) = false := by simp; omega
        have hgmI : decide ((4294967294 : Int) ≤ (G : Int)) = false := decide_eq_false (by omega)
        have HNG := Lib.hid hgm
        obtain ⟨G1, hG1⟩ : ∃ G1, G + 1 = G1 := ⟨_, rfl⟩
        have hwg : IntKind.u64.wrap ((G : Int) + 1) = (G1 : Int) := by rw [IntKind.wrap_u64]; omega
        have hk3 := Blk.new w2 91 #[.pointer (some ⟨a, 0, none⟩), .int .i64 (dev : Int), .int .i64 (N : Int), .int .u64 (G1 : Int), .int .u64 (E : Int), .int .i64 2, .int .u64 1]
        have hb3 := below_al' (w := w2) (.cells #[.pointer (some ⟨a, 0, none⟩), .int .i64 (dev : Int), .int .i64 (N : Int), .int .u64 (G1 : Int), .int .u64 (E : Int), .int .i64 2, .int .u64 1] 91)
        have HG1 : Hid (G + 1 = G1 ∧ G1 < 4294967295 ∧ E < 4294967296) := Lib.hid ⟨hG1, by omega, hEl⟩
        have HK3 := Lib.hid hk3
        have HB3 := Lib.hid hb3
        clear hg0 hk3 hb3 hgm hGl hEl hG1
        have hbld := fun W => run_wal0 W a dev N G1 E
        have hlt3 : w2.heap.size < (w2.alloc (.cells #[.pointer (some ⟨a, 0, none⟩), .int .i64 (dev : Int), .int .i64 (N : Int), .int .u64 (G1 : Int), .int .u64 (E : Int), .int .i64 2, .int .u64 1] 91)).heap.size := by simp
        go_wp2_with fail
        clear hbld hwg
        generalize hw3 : w2.alloc (.cells #[.pointer (some ⟨a, 0, none⟩), .int .i64 (dev : Int), .int .i64 (N : Int), .int .u64 (G1 : Int), .int .u64 (E : Int), .int .i64 2, .int .u64 1] 91) = w3 at *
        generalize hgg : w2.heap.size = g at *
        have HGG := Lib.hid hgg
        clear hw3 hgg
        go_loopg [13] (N - 2) (fun k lv wr => OpnR w2 a dev N G1 E g f k lv wr)
        case atStart => exact ⟨[], 2, none, 0, by omega, .nil, rfl, TxsAt.nil_ _ _ _, HK3.out, HB3.out, hlt3⟩
        case round =>
          obtain ⟨txs, nx, AT, cT, hnx, hch, rfl, htx, hwb, hbw, hgl⟩ := hrel
          have HTX := Lib.hid htx
          have HCH := Lib.hid hch
          have HWB := Lib.hid hwb
          have HBW := Lib.hid hbw
          have HNX := Lib.hid hnx
          have HBWsz := Lib.hid hgl
          have HBWW : Hid (Below w.heap.size w wr) := Lib.hid (HB2.out.trans (hbw.mono (by rw [← HGG.out]; exact HB2.out.size)))
          have hrd := read_on (HST.out.below HBWW.out) HD.out (by omega) HON.out hwb (by show nx ≤ _; omega) (HT.out.below HBWW.out hgw) (Nat.lt_of_lt_of_le hgw HBWW.out.size)
          rw [HF.out] at hrd
          have HRD := Lib.hid hrd
          clear htx hch hwb hbw hnx hrd HK3 HB3 hlt3
          go_wp2_with fail
          refine HRD.out.mono ?_
          rintro e w4 ⟨hb4, ⟨hno, rfl⟩ | ⟨tx, q, v, hsome, rfl, htx4⟩⟩
          · have HENDS : Hid (Ends f N E txs nx) := Lib.hid ⟨HCH.out, hno⟩
            have HB4 := Lib.hid (HBWW.out.trans (hb4.mono HBWW.out.size))
            have HTX4 := Lib.hid (HTX.out.below hb4)
            have HWB4 := Lib.hid (HWB.out.below hb4)
            have HRS : Hid (wr.heap.size ≤ w4.heap.size) := Lib.hid hb4.size
            have HG4 : Hid (Below g w2 w4) := Lib.hid (HBW.out.trans (hb4.mono (Nat.le_of_lt hgl)))
            have hgl4 : g < w4.heap.size := Nat.lt_of_lt_of_le hgl hb4.size
            clear hb4 hno HRD HTX HWB HBW HCH
            obtain ⟨d0, d1, d2, d3, d4, d5, d6⟩ := HWB4.out.cells
            have e3 : w4.drew.cell? ⟨g, 3, none⟩ = some (.int .u64 (G1 : Int)) := d3
            have e4 : w4.drew.cell? ⟨g, 4, none⟩ = some (.int .u64 (E : Int)) := d4
            have HLY := Lib.hid (lay_on (HST.out.below HB4.out.drew) HD.out (Nat.le_trans hB HB4.out.size) (by omega) HON.out (by omega) G1 E (by have := HG1.out; omega) (by have := HG1.out; omega) (HT.out.below HB4.out.drew hgw) (Nat.lt_of_lt_of_le hgw HB4.out.size))
            clear d0 d1 d2 d3 d4 d5 d6
            go_wp2_with fail
            refine Ord.region_ord [] [0, 1, 2, 3, 4, 5, 6, 7, 8, 9, 10, 11] (by kernel_rfl) (by kernel_rfl) (by kernel_rfl) (by kernel_rfl) (Ord.ord_all [_, _, _, _, _, _, _, _, _, _, _, _] rfl (by kernel_rfl) ?_)
            go_wp2_with fail
            refine HLY.out.mono ?_
            rintro e w5 ⟨F5, pm5, hf5, h5⟩
            have HF5 := Lib.hid (hf5.of_below HB4.out.drew)
            have hnF : ∀ k, w.heap.size ≤ k → ¬ F k := fun k hk hF => by have := (HST.out.lt k hF).2; omega
            have hgw2 : w.heap.size ≤ g := by rw [← HGG.out]; exact HB2.out.size
            have HGF : Hid (w.heap.size ≤ g ∧ ¬ F5 g) := Lib.hid ⟨hgw2, fun hF => (hf5.grow g hF).elim (hnF g hgw2) fun h => by have h' : w4.heap.size ≤ g := h; omega⟩
            have HWB5 : Hid (WalB w5 g a dev N ⟨G1, E, nx, txs.length + 1⟩) := Lib.hid (Blk.mods (w := w4.drew) HWB4.out hf5.mods hgl4 (hnF g hgw2))
            have HTX5 : Hid (TxsAt w5 (fun k => w.heap.size ≤ k ∧ ¬ F5 k ∧ k ≠ g) txs (.slice AT txs.length cT)) := Lib.hid ((TxsAt.mods (w := w4.drew) HTX4.out hf5.mods fun k hk hj => ⟨hk, hnF k (by omega)⟩).mono fun k _ hj => ⟨by omega, fun hF => (hf5.grow k hF).elim (hnF k (by omega)) fun h => by have h' : w4.heap.size ≤ k := h; have := HRS.out; omega, by omega⟩)
            rcases h5 with ⟨rfl, hd5, hon5⟩ | ⟨rfl, hfu5, hoff5, hds5⟩
            · have HD5 := Lib.hid (⟨hd5, hon5⟩ : _ ∧ _)
              clear hf5 hd5 hon5 HLY e3 e4 hnF
              go_wp2_with fail
              refine Ord.nx_end ?_
              go_wp2_with fail
              go_ret3
              refine ⟨F5, pm5, G, E, HF5.out, HGE.out.1, HGE.out.2, .inr ⟨HB.out, txs, nx, by rw [HF.out]; exact HENDS.out, .inl ⟨g, _, rfl, ?_, HD5.out.2, HGF.out.1, HGF.out.2, ?_, HTX5.out⟩⟩⟩
              · rw [HG1.out.1]
                exact HD5.out.1
              · rw [HG1.out.1]
                exact HWB5.out
            · have HD5 := Lib.hid (⟨hfu5, hoff5, hds5⟩ : _ ∧ _ ∧ _)
              clear hf5 hfu5 hoff5 hds5 HLY e3 e4 hnF
              go_wp2_with fail
              refine Ord.nx_end ?_
              go_wp2_with fail
              go_ret3
              refine ⟨F5, pm5, G, E, HF5.out, HGE.out.1, HGE.out.2, .inr ⟨HB.out, txs, nx, by rw [HF.out]; exact HENDS.out, .inr ⟨rfl, HD5.out.1, HD5.out.2.1, ?_⟩⟩⟩
              rw [HG1.out.1]
              exact HD5.out.2.2
          · obtain ⟨hq1, hqN, _, _, _⟩ := readM_parts hsome
            obtain ⟨Av, cv, rfl, _⟩ := htx4.rows
            have hqN' : nx + q ≤ N := hqN
            obtain ⟨vs, hvT, hrT⟩ := HTX.out
            have hq0 : ((q : Int) == 0) = false := by simp; omega
            obtain ⟨p, hp⟩ : ∃ p, nx + q = p := ⟨_, rfl⟩
            have hpI : (nx : Int) + (q : Int) = (p : Int) := by omega
            obtain ⟨l2, hl2⟩ : ∃ l2, txs.length + 1 + 1 = l2 := ⟨_, rfl⟩
            have hnl := HCH.out.le.1
            have htl : txs.length ≤ 4096 := by omega
            have hl2I : ((txs.length + 1 : Nat) : Int) + 1 = (l2 : Int) := by omega
            have hwl : IntKind.u64.wrap ((txs.length + 1 : Nat) + 1 : Int) = (l2 : Int) := by rw [IntKind.wrap_u64]; omega
            have hwp : IntKind.i64.wrap ((nx : Int) + (q : Int)) = (p : Int) := by rw [hpI]; exact IntWalk.i64_in _ (by omega)
            have HVT := Lib.hid (hvT.below hb4)
            have HWB4 := Lib.hid (HWB.out.below hb4)
            have HBW4 : Hid (Below g w2 w4) := Lib.hid (HBW.out.trans (hb4.mono (Nat.le_of_lt hgl)))
            have hgl4 : g < w4.heap.size := Nat.lt_of_lt_of_le hgl hb4.size
            have HRT4 : Hid (∀ (k : Nat) (t : Tx), txs[k]? = some t → ∃ y, vs[k]? = some y ∧ TxAt w4 (fun j => g < j ∧ j < w4.heap.size) t y) := Lib.hid fun k t hk => (hrT k t hk).imp fun _ h => ⟨h.1, (h.2.below hb4).mono fun j hj hg => ⟨hg.1, hj⟩⟩
            have HTV4 : Hid (TxAt w4 (fun j => g < j ∧ j < w4.heap.size) tx (.slice Av tx.length cv)) := Lib.hid (htx4.mono fun j hj hg => ⟨Nat.lt_of_lt_of_le hgl hg.1, hj⟩)
            have HCH2 := Lib.hid (Chain.snoc HCH.out hsome)
            have HPL := Lib.hid (⟨hp, hl2⟩ : _ ∧ _)
            have hvl := hvT.len
            clear hb4 hsome htx4 hvT hrT HRD HTX HWB HBW HCH hp hl2 hpI hnl
            go_wp2_with
              (at_builtin
               ((refine wpList_append_vec rfl (.tmp 63) (.tmp 65) _ rfl 24 _ txTy rfl (HVT.out.below (below_al' _)) ⟨w4.heap.size, 0, none⟩ 1 1 [.slice Av tx.length cv] rfl rfl (blk_news (Blk.new w4 _ _)) (by intro v hv; simp at hv; subst hv; rfl) ?c1 ?c2 ?_)
                case c1 => unfold maxLen; omega
                case c2 => omega
                intro v5 w5 row hv5 hg5 hr5
                obtain ⟨A5, c5, rfl⟩ := hv5.shape
                (have hst := opn_step (q := q) (J' := fun j => g < j ∧ j < w5.heap.size) HWB4.out (by rw [hvl, Nat.mul_one]) HRT4.out HTV4.out (hv5.mono fun j hj hg => ⟨by
                  rcases hg with hg | hg
                  · exact hg.1
                  · have := hg.1
                    simp at this
                    omega, hj⟩) hg5 (hr5.imp id fun ⟨k, cs, h1, h2, h3⟩ => ⟨k, cs, h1, h2.1, h3⟩) (fun j hj => ⟨hj.1, by have := hg5.size; simp at this; omega⟩))
                have HSTP := Lib.hid hst
                obtain ⟨f0, f1, f2, f3, f4, f5, f6⟩ := hst.2.1.cells
                have z5 := Blk.frozen hst.2.1 5
                have z6 := Blk.frozen hst.2.1 6
                have HG5 := Lib.hid hg5
                have HR5 := Lib.hid hr5
                clear hv5 hg5 hr5 hst f0 f1 f2 f3 f4))
            have e5 : ((nx + q : Nat) : Int) = (p : Int) := by rw [HPL.out.1]
            have e6 : ((txs.length + 1 + 1 : Nat) : Int) = (txs.length : Int) + 1 + 1 := by omega
            have hstp := HSTP.out
            rw [e5, e6] at hstp
            have HST2 := Lib.hid hstp
            clear hstp HSTP f5 f6 z5 z6 e5 e6
            go_roundg (gk - q)
            case measure => have := HNX.out; omega
            case rel =>
              have hsz5 : w4.heap.size + 1 ≤ w5.heap.size := by have := HG5.out.size; simpa using this
              refine ⟨txs ++ [tx], nx + q, A5, c5, by have := HNX.out; omega, HCH2.out, by simp, ?_, HST2.out.2.2, ?_, by simp; omega⟩
              · have h1 := HST2.out.1
                rw [List.length_append]
                exact h1.mono fun j _ hj => ⟨hj.1, by simp; exact hj.2⟩
              · refine (Below.setCell (p := ⟨g, 5, none⟩) ?_ (Nat.le_refl _) _).setCell (p := ⟨g, 6, none⟩) (Nat.le_refl _) _
                exact (HBW4.out.trans ((below_al' (w := w4) _).mono (Nat.le_of_lt hgl4))).grown HG5.out (by simp; omega) fun k hk => by
                  rcases HR5.out with h | ⟨k', cs, h, hk', _⟩
                  · rw [h] at hk; cases hk
                  · rw [h] at hk
                    injection hk with hk
                    have := hk'.1
                    omega
  · omega
end Go.Proofs.YtlnfeehokpkgiaaDoor.Wal
