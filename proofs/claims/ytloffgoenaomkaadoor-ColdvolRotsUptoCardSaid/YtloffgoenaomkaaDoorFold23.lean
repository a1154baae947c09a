/- Layer 5 (tree): the hashes of a text, a leaf, a node. -/
import Derived.Test.YtloffgoenaomkaaDoorSha6
namespace Go.Proofs.YtloffgoenaomkaaDoor.Sha
open Go Go.RowKit Mem Pl Crc Hash
/-- A text's hash. -/
def hashM (b : List UInt8) : List UInt8 := sumM (piecesM startM b (b.length / 64)) (b.drop (64 * (b.length / 64))) b.length
def leafM (b : List UInt8) : List UInt8 := hashM ([0] ++ b)
def nodeM (l r : List UInt8) : List UInt8 := hashM ([1] ++ l ++ r)
theorem sumM_len (s : S8w) (rest : List UInt8) (n : Nat) : (sumM s rest n).length = 32 := toldM_len _
theorem hashM_len (b : List UInt8) : (hashM b).length = 32 := sumM_len _ _ _
theorem nodeM_len (l r : List UInt8) : (nodeM l r).length = 32 := sumM_len _ _ _
theorem leafM_len (b : List UInt8) : (leafM b).length = 32 := sumM_len _ _ _
/-- What a state has taken. -/
def Took (w : World) (g : Nat) (tot : List UInt8) : Prop := ∃ (A : Option Addr) (m c : Nat), Blk w g 147 (StC (piecesM startM tot (tot.length / 64)) (.slice A m c) tot.length).toArray ∧ m = tot.length % 64 ∧ m ≤ c ∧
  Far w g A (tot.drop (64 * (tot.length / 64))) ∧ (tot.length < 64 → Own w (g + 1) 5 A m c tot)
theorem Took.below {w w' : World} {g : Nat} {tot : List UInt8} (h : Took w g tot) (hb : Below w.heap.size w w') : Took w' g tot := by
  obtain ⟨A, m, c, h1, h2, h3, h4, h5⟩ := h
  exact ⟨A, m, c, h1.below_ hb, h2, h3, h4.below hb, fun h => (h5 h).below hb⟩
theorem Took.new {w : World} {g : Nat} (h : Blk w g 147 (StC startM (.slice none 0 0) 0).toArray) : Took w g [] :=
  ⟨none, 0, 0, h, rfl, Nat.le_refl _, ⟨BAt.nil_ _ _, fun _ e => by cases e⟩, fun _ => Own.nil_ _ _ _⟩
theorem took_write {w : World} {g : Nat} {tot : List UInt8} (h : Took w g tot) (h64 : tot.length < 64) (AB : Option Addr) (l d : Nat) (b : List UInt8) (hb : BAt w AB b) (hbn : b ≠ [] → ∀ ad, AB = some ad → ad.block ≠ g) (hl : b.length = l) (hl6 : l ≤ 1000000) (hkt : Ktab w) (hgk : 1 < g) :
    Calls Tryd.prog 68 #[.pointer (some ⟨g, 0, none⟩), .slice AB l d] w fun e w' => e = .returned (.tuple #[]) ∧ Took w' g (tot ++ b) ∧ Below g w w' := by
  obtain ⟨A, m, c, h1, h2, h3, h4, h5⟩ := h
  have h0 : tot.length / 64 = 0 := by omega
  have hm : tot.length % 64 = tot.length := by omega
  rw [h0] at h1
  refine (write_any w g startM A m c tot tot.length h1 (h5 h64) (by omega) AB l d b hb hbn hl hl6 (by omega) hkt hgk).mono ?_
  rintro e w' ⟨rfl, A', m', c', k1, k2, k3, k4, k5, k6⟩
  exact ⟨rfl, ⟨A', m', c', by rw [List.length_append, hl] at k1 ⊢; exact k1, k2, k3, k4, k5⟩, k6⟩
theorem took_sum {w : World} {g : Nat} {tot : List UInt8} (h : Took w g tot) (hl : tot.length ≤ 1000000000) (hkt : Ktab w) (hgk : 1 < w.heap.size) :
    Calls Tryd.prog 69 #[.pointer (some ⟨g, 0, none⟩)] w fun e w' => e = .returned (.agg (cellsOf (hashM tot))) ∧ Below w.heap.size w w' := by
  obtain ⟨A, m, c, h1, h2, h3, h4, h5⟩ := h
  exact sum_any w g _ A m c (tot.drop (64 * (tot.length / 64))) tot.length h1 h4 (by rw [List.length_drop]; omega) (by omega) hl hkt hgk
set_option maxRecDepth 100000 in
set_option maxHeartbeats 4000000 in
theorem leaf_any (w : World) (AB : Option Addr) (l d : Nat) (b : List UInt8) (hb : BAt w AB b) (hl : b.length = l) (hl6 : l ≤ 900000) (hkt : Ktab w) (hgk : 1 < w.heap.size) :
    Calls Tryd.prog 48 #[.slice AB l d] w fun e w' => e = .returned (.agg (cellsOf (leafM b))) ∧ Below w.heap.size w w' := by
  have hb1 := below_al' (w := w) (.cells (cellsOf z32) 44)
  have hk1 := Blk.new w 44 (cellsOf z32)
  have HW1 := Lib.hid (⟨hb1, hk1⟩ : _ ∧ _)
  have HNW := Lib.hid (new_any (w.alloc (.cells (cellsOf z32) 44)))
  have HB := Lib.hid hb
  have HL := Lib.hid hl
  have HKT := Lib.hid hkt
  have hal := run_allocHash
  clear hb1 hk1 hb hl hkt
  go_enter Tryd.func48, Tryd.ntmps48
  go_wp2_with fail
  refine HNW.out.mono ?_
  rintro e w2 ⟨g, rfl, hg, hk2, hb2⟩
  have hb2' : Below w.heap.size w w2 := HW1.out.1.trans (hb2.mono HW1.out.1.size)
  have hg1 : w.heap.size < g := by
    have h1 := hg
    simp only [World.size_alloc] at h1
    omega
  have hgl := hk2.lt
  have hn0 := below_al' (w := w2) (.cells (cellsOf [0]) 5)
  have HT0 := Lib.hid ((Took.new hk2).below hn0)
  have hz2 : Blk w2 w.heap.size 44 (cellsOf z32) := HW1.out.2.below_ hb2
  have HW2 := Lib.hid (⟨hb2', hz2, hn0, hz2.below_ hn0⟩ : _ ∧ _ ∧ _ ∧ _)
  have HWR := Lib.hid (took_write HT0.out (by decide) (some ⟨w2.heap.size, 0, none⟩) 1 1 [0] (Blk.new w2 5 (cellsOf [0])).bat (fun _ ad e => by injection e with e; subst e; exact Nat.ne_of_gt hgl) rfl (by decide) (((HKT.out.below hb2' hgk)).below hn0 (by have := hb2'.size; omega)) (by omega))
  clear hk2 hb2 hb2' hn0 hz2 hg HNW
  go_wp2_with fail
  refine HWR.out.mono ?_
  rintro e w3 ⟨rfl, ht3, hb3⟩
  have hb3' : Below w.heap.size w w3 := (HW2.out.1.trans (HW2.out.2.2.1.mono HW2.out.1.size)).trans (hb3.mono (Nat.le_of_lt hg1))
  have HW3 := Lib.hid (⟨hb3', HW2.out.2.2.2.below hb3 hg1⟩ : _ ∧ _)
  have HWR2 := Lib.hid (took_write ht3 (by decide) AB l d b (HB.out.below hb3') (fun h0 ad e => by have := aside_lt HB.out h0 ad e; omega) HL.out (by omega) (HKT.out.below hb3' hgk) (by omega))
  clear ht3 hb3 hb3' HWR
  go_wp2_with fail
  refine HWR2.out.mono ?_
  rintro e w4 ⟨rfl, ht4, hb4⟩
  have hb4' : Below w.heap.size w w4 := HW3.out.1.trans (hb4.mono (Nat.le_of_lt hg1))
  have HW4 := Lib.hid (⟨hb4', HW3.out.2.below hb4 hg1⟩ : _ ∧ _)
  have HSU := Lib.hid (took_sum ht4 (by have := HL.out; simp; omega) (HKT.out.below hb4' hgk) (by have := hb4'.size; omega))
  clear ht4 hb4 hb4' HWR2
  go_wp2_with fail
  refine HSU.out.mono ?_
  rintro e w5 ⟨rfl, hb5⟩
  have HK5 := Lib.hid (⟨HW4.out.2.below_ hb5, HW4.out.1.trans (hb5.mono HW4.out.1.size)⟩ : _ ∧ _)
  clear hb5
  go_wp2_with
    (refine wpList_store_hash rfl (.tmp 2) (.tmp 12) rfl w.heap.size _ z32 (leafM b) rfl rfl HK5.out.1 rfl (leafM_len b) ?_
     intro w9 hk9 hg9 hz9)
  have HB9 := Lib.hid (HK5.out.2.grown hg9 HK5.out.2.size (fun k hk => by injection hk with hk; omega))
  have hld := load_hash hk9 (leafM_len b)
  refine bodyPost_ret (v := .agg (cellsOf (leafM b))) ?_ rfl ⟨rfl, HB9.out⟩
  simp [results, Tryd.results48, asAddr, Act.put, hld]
end Go.Proofs.YtloffgoenaomkaaDoor.Sha
/- Layer 5 (tree): a node; the hash of nothing. -/
namespace Go.Proofs.YtloffgoenaomkaaDoor.Sha
open Go Go.RowKit Mem Pl Crc Hash
set_option maxRecDepth 100000 in
set_option maxHeartbeats 4000000 in
theorem node_any (w : World) (l r : List UInt8) (hl : l.length = 32) (hr : r.length = 32) (hkt : Ktab w) (hgk : 1 < w.heap.size) :
    Calls Tryd.prog 66 #[.agg (cellsOf l), .agg (cellsOf r)] w fun e w' => e = .returned (.agg (cellsOf (nodeM l r))) ∧ Below w.heap.size w w' := by
  have hb1 : Below w.heap.size w (((w.alloc (.cells (cellsOf l) 44)).alloc (.cells (cellsOf r) 44)).alloc (.cells (cellsOf z32) 44)) := ((below_al' _).alloc (by simp) _).alloc (by simp; omega) _
  have hkl := ((Blk.new w 44 (cellsOf l)).alloc (.cells (cellsOf r) 44)).alloc (.cells (cellsOf z32) 44)
  have hkr : Blk (((w.alloc (.cells (cellsOf l) 44)).alloc (.cells (cellsOf r) 44)).alloc (.cells (cellsOf z32) 44)) (w.heap.size + 1) 44 (cellsOf r) := by
    have := (Blk.new (w.alloc (.cells (cellsOf l) 44)) 44 (cellsOf r)).alloc (.cells (cellsOf z32) 44)
    simp only [World.size_alloc] at this
    exact this
  have hkz : Blk (((w.alloc (.cells (cellsOf l) 44)).alloc (.cells (cellsOf r) 44)).alloc (.cells (cellsOf z32) 44)) (w.heap.size + 1 + 1) 44 (cellsOf z32) := by
    have := Blk.new ((w.alloc (.cells (cellsOf l) 44)).alloc (.cells (cellsOf r) 44)) 44 (cellsOf z32)
    simp only [World.size_alloc] at this
    exact this
  have HNW := Lib.hid (new_any (((w.alloc (.cells (cellsOf l) 44)).alloc (.cells (cellsOf r) 44)).alloc (.cells (cellsOf z32) 44)))
  have HW1 := Lib.hid (⟨hb1, hkl, hkr, hkz⟩ : _ ∧ _ ∧ _ ∧ _)
  have HL := Lib.hid (⟨hl, hr⟩ : _ ∧ _)
  have HKT := Lib.hid hkt
  have hal := run_allocHash
  have hcut := run_hashAll
  have hsl : (cellsOf l).size = 32 := by simp [cellsOf, hl]
  have hsr : (cellsOf r).size = 32 := by simp [cellsOf, hr]
  clear hb1 hkl hkr hkz hl hr hkt
  go_enter Tryd.func66, Tryd.ntmps66
  go_wp2_with fail
  refine HNW.out.mono ?_
  rintro e w2 ⟨g, rfl, hg, hk2, hb2⟩
  have hb2' : Below w.heap.size w w2 := HW1.out.1.trans (hb2.mono HW1.out.1.size)
  have hg1 : w.heap.size + 2 < g := by
    have h1 := hg
    simp only [World.size_alloc] at h1
    omega
  have hgl := hk2.lt
  have hn0 := below_al' (w := w2) (.cells (cellsOf [1]) 5)
  have HT0 := Lib.hid ((Took.new hk2).below hn0)
  have HKS := Lib.hid (⟨(HW1.out.2.1.below_ hb2).below_ hn0, (HW1.out.2.2.1.below_ hb2).below_ hn0, (HW1.out.2.2.2.below_ hb2).below_ hn0⟩ : _ ∧ _ ∧ _)
  have HW2 := Lib.hid (⟨hb2', hn0⟩ : _ ∧ _)
  have HWR := Lib.hid (took_write HT0.out (by decide) (some ⟨w2.heap.size, 0, none⟩) 1 1 [1] (Blk.new w2 5 (cellsOf [1])).bat (fun _ ad e => by injection e with e; subst e; exact Nat.ne_of_gt hgl) rfl (by decide) (((HKT.out.below hb2' hgk)).below hn0 (by have := hb2'.size; omega)) (by omega))
  clear hk2 hb2 hb2' hn0 hg HNW
  go_wp2_with fail
  refine HWR.out.mono ?_
  rintro e w3 ⟨rfl, ht3, hb3⟩
  have hb3' : Below w.heap.size w w3 := (HW2.out.1.trans (HW2.out.2.mono HW2.out.1.size)).trans (hb3.mono (by omega))
  have HK3 := Lib.hid (⟨HKS.out.1.below hb3 (by omega), HKS.out.2.1.below hb3 (by omega), HKS.out.2.2.below hb3 (by omega)⟩ : _ ∧ _ ∧ _)
  have HW3 := Lib.hid hb3'
  have HWR2 := Lib.hid (took_write ht3 (by decide) (some ⟨w.heap.size, 0, none⟩) 32 32 l HK3.out.1.bat (fun _ ad e => by injection e with e; subst e; show w.heap.size ≠ g; omega) HL.out.1 (by decide) (HKT.out.below hb3' hgk) (by omega))
  clear ht3 hb3 hb3' HWR HKS
  go_wp2_with fail
  refine HWR2.out.mono ?_
  rintro e w4 ⟨rfl, ht4, hb4⟩
  have hb4' : Below w.heap.size w w4 := HW3.out.trans (hb4.mono (by omega))
  have HK4 := Lib.hid (⟨HK3.out.2.1.below hb4 (by omega), HK3.out.2.2.below hb4 (by omega)⟩ : _ ∧ _)
  have HW4 := Lib.hid hb4'
  have HWR3 := Lib.hid (took_write ht4 (by have := HL.out; simp; omega) (some ⟨w.heap.size + 1, 0, none⟩) 32 32 r HK4.out.1.bat (fun _ ad e => by injection e with e; subst e; show w.heap.size + 1 ≠ g; omega) HL.out.2 (by decide) (HKT.out.below hb4' hgk) (by omega))
  clear ht4 hb4 hb4' HWR2 HK3
  go_wp2_with fail
  refine HWR3.out.mono ?_
  rintro e w5 ⟨rfl, ht5, hb5⟩
  have hb5' : Below w.heap.size w w5 := HW4.out.trans (hb5.mono (by omega))
  have HK5 := Lib.hid (HK4.out.2.below hb5 (by omega))
  have HW5 := Lib.hid hb5'
  have HSU := Lib.hid (took_sum ht5 (by have := HL.out; simp; omega) (HKT.out.below hb5' hgk) (by have := hb5'.size; omega))
  clear ht5 hb5 hb5' HWR3 HK4
  go_wp2_with fail
  refine HSU.out.mono ?_
  rintro e w6 ⟨rfl, hb6⟩
  have HK6 := Lib.hid (⟨HK5.out.below_ hb6, HW5.out.trans (hb6.mono HW5.out.size)⟩ : _ ∧ _)
  clear hb6
  go_wp2_with
    (refine wpList_store_hash rfl (.tmp 4) (.tmp 17) rfl (w.heap.size + 1 + 1) _ z32 (nodeM l r) rfl rfl HK6.out.1 rfl (nodeM_len l r) ?_
     intro w9 hk9 hg9 hz9)
  have HB9 := Lib.hid (HK6.out.2.grown hg9 HK6.out.2.size (fun k hk => by injection hk with hk; omega))
  have hld := load_hash hk9 (nodeM_len l r)
  refine bodyPost_ret (v := .agg (cellsOf (nodeM l r))) ?_ rfl ⟨rfl, HB9.out⟩
  simp [results, Tryd.results66, asAddr, Act.put, hld]
set_option maxRecDepth 100000 in
set_option maxHeartbeats 4000000 in
theorem sumNil_any (w : World) (hkt : Ktab w) (hgk : 1 < w.heap.size) :
    Calls Tryd.prog 70 #[.slice none 0 0] w fun e w' => e = .returned (.agg (cellsOf (hashM []))) ∧ Below w.heap.size w w' := by
  have hb1 := below_al' (w := w) (.cells (cellsOf z32) 44)
  have hk1 := Blk.new w 44 (cellsOf z32)
  have HW1 := Lib.hid (⟨hb1, hk1⟩ : _ ∧ _)
  have HNW := Lib.hid (new_any (w.alloc (.cells (cellsOf z32) 44)))
  have HKT := Lib.hid hkt
  have hal := run_allocHash
  clear hb1 hk1 hkt
  go_enter Tryd.func70, Tryd.ntmps70
  go_wp2_with fail
  refine HNW.out.mono ?_
  rintro e w2 ⟨g, rfl, hg, hk2, hb2⟩
  have hb2' : Below w.heap.size w w2 := HW1.out.1.trans (hb2.mono HW1.out.1.size)
  have hg1 : w.heap.size < g := by
    have h1 := hg
    simp only [World.size_alloc] at h1
    omega
  have hz2 : Blk w2 w.heap.size 44 (cellsOf z32) := HW1.out.2.below_ hb2
  have HW2 := Lib.hid (⟨hb2', hz2⟩ : _ ∧ _)
  have HWR := Lib.hid (took_write (Took.new hk2) (by decide) none 0 0 [] (BAt.nil_ _ _) (fun h => absurd rfl h) rfl (by decide) (HKT.out.below hb2' hgk) (by omega))
  clear hk2 hb2 hb2' hz2 hg HNW
  go_wp2_with fail
  refine HWR.out.mono ?_
  rintro e w3 ⟨rfl, ht3, hb3⟩
  have hb3' : Below w.heap.size w w3 := HW2.out.1.trans (hb3.mono (Nat.le_of_lt hg1))
  have HW3 := Lib.hid (⟨hb3', HW2.out.2.below hb3 hg1⟩ : _ ∧ _)
  have HSU := Lib.hid (took_sum ht3 (by decide) (HKT.out.below hb3' hgk) (by have := hb3'.size; omega))
  clear ht3 hb3 hb3' HWR
  go_wp2_with fail
  refine HSU.out.mono ?_
  rintro e w5 ⟨rfl, hb5⟩
  have HK5 := Lib.hid (⟨HW3.out.2.below_ hb5, HW3.out.1.trans (hb5.mono HW3.out.1.size)⟩ : _ ∧ _)
  clear hb5
  go_wp2_with
    (refine wpList_store_hash rfl (.tmp 2) (.tmp 9) rfl w.heap.size _ z32 (hashM []) rfl rfl HK5.out.1 rfl (hashM_len []) ?_
     intro w9 hk9 hg9 hz9)
  have HB9 := Lib.hid (HK5.out.2.grown hg9 HK5.out.2.size (fun k hk => by injection hk with hk; omega))
  have hld := load_hash hk9 (hashM_len [])
  refine bodyPost_ret (v := .agg (cellsOf (hashM []))) ?_ rfl ⟨rfl, HB9.out⟩
  simp [results, Tryd.results70, asAddr, Act.put, hld]
end Go.Proofs.YtloffgoenaomkaaDoor.Sha
