/- The walk of the reference's 'Read'. -/
import Derived.Test.YtomncfiklkhfjaaRecDecode2
namespace Go.Proofs.Ytomncfiklkhfjaa.Rec
open Go.RowKit Mem Crc _root_.Go.Proofs.Ytomncfiklkhfjaa.Frame
attribute [local go_sem] S8_size
attribute [local go_sem ↓] Go.wp_at_zero Go.wp_at_succ
theorem zero32 : (#[Value.int .u8 0, Value.int .u8 0, Value.int .u8 0, Value.int .u8 0, Value.int .u8 0, Value.int .u8 0, Value.int .u8 0, Value.int .u8 0, Value.int .u8 0, Value.int .u8 0, Value.int .u8 0, Value.int .u8 0, Value.int .u8 0, Value.int .u8 0, Value.int .u8 0, Value.int .u8 0, Value.int .u8 0, Value.int .u8 0, Value.int .u8 0, Value.int .u8 0, Value.int .u8 0, Value.int .u8 0, Value.int .u8 0, Value.int .u8 0, Value.int .u8 0, Value.int .u8 0, Value.int .u8 0, Value.int .u8 0, Value.int .u8 0, Value.int .u8 0, Value.int .u8 0, Value.int .u8 0] : Array Value) = cellsOf (List.replicate 32 0) := by simp [cellsOf, B8, V8, List.replicate]
/-- Two rows of 32 bytes in the call's own memory. -/
structure Two (w wr : World) (a b : List UInt8) : Prop where
  ba : Blk wr w.heap.size 23 (a.map B8).toArray
  bb : Blk wr (w.heap.size + 1) 23 (b.map B8).toArray
  la : a.length = 32
  lb : b.length = 32
  below : Below w.heap.size w wr
theorem Two.made {w W : World} (hb : Blk W (w.heap.size + 1) 23 ((List.replicate 32 (0 : UInt8)).map B8).toArray)
    (hg : ((w.alloc (.cells (cellsOf (List.replicate 32 0)) 23)).alloc (.cells (cellsOf (List.replicate 32 0)) 23)).grownBy W (some (w.heap.size + 1))) : Two w W (List.replicate 32 0) (List.replicate 32 0) :=
  ⟨((Blk.new w _ _).alloc _).grown hg (by simp), hb, by simp, by simp, (((Below.refl _ _).alloc (Nat.le_refl _) _).alloc (by simp) _).grown hg (by simp; omega) (fun k hk => by injection hk with hk; omega)⟩
theorem Two.drew {w wr : World} {a b : List UInt8} (h : Two w wr a b) : Two w wr.drew a b := ⟨h.ba, h.bb, h.la, h.lb, below_drewN h.below 1⟩
theorem Two.ranges {w wr : World} {a b : List UInt8} (h : Two w wr a b) : wr.rangeAt (w.heap.size + 1) 0 (b.map B8) ∧ wr.there w.heap.size 0 32 :=
  ⟨(blk_ranges h.bb (n := 32) (by simp [h.lb])).1, (blk_ranges h.ba (n := 32) (by simp [h.la])).2⟩
theorem Two.stored {w wr : World} {a b : List UInt8} (h : Two w wr a b) : Two w (wr.setCells w.heap.size 0 (b.map B8)) b b := by
  obtain ⟨k1, k2, k3⟩ := blk_sets (b.map B8) (a.map B8) 0 wr h.ba (by simp [h.la, h.lb])
  refine ⟨?_, h.bb.grown k2 (by simp), h.lb, h.lb, h.below.grown k2 h.below.size (fun k hk => by injection hk with hk; omega)⟩
  have e : (a.map B8).take 0 ++ b.map B8 ++ (a.map B8).drop (0 + (b.map B8).length) = b.map B8 := by
    rw [Nat.zero_add, List.drop_eq_nil_of_le (by simp [h.la, h.lb])]
    simp
  rw [e] at k1
  exact k1
theorem Two.setb {w wr : World} {a b : List UInt8} (h : Two w wr a b) (k : Nat) (c : UInt8) : Two w (wr.setCell ⟨w.heap.size + 1, k, none⟩ (.int .u8 (V8 c))) a (b.set k c) := by
  refine ⟨h.ba.far (by simp) _, ?_, h.la, by simp [h.lb], h.below.setCell (by simp) _⟩
  have := h.bb.set_ k (.int .u8 (V8 c))
  rwa [show ((b.map B8).toArray).setIfInBounds k (.int .u8 (V8 c)) = ((b.set k c).map B8).toArray by rw [List.map_set]; simp [B8]] at this
theorem addr_zero (a : Addr) : a.add 0 = a := by simp [Addr.add]
/-- What holds at the head of a round. -/
def RootRel (w : World) (root : List UInt8) (iv : Value) (wr : World) : Prop :=
  ∃ k : Nat, k ≤ 32 ∧ iv = .int .i64 k ∧ Two w wr (List.replicate 32 0) (root.take k ++ List.replicate (32 - k) 0)
theorem root_step (root : List UInt8) (k : Nat) (h : k < 32) (hl : root.length = 32) : (root.take k ++ List.replicate (32 - k) 0).set k (root.getD k 0) = root.take (k + 1) ++ List.replicate (32 - (k + 1)) 0 := by
  rw [List.take_succ_eq_append_getElem (by omega), List.set_append_right _ _ (by simp; omega)]
  have : 32 - k = (32 - (k + 1)) + 1 := by omega
  rw [this, List.replicate_succ]
  simp [List.getD, hl, h, Nat.min_eq_left (Nat.le_of_lt h)]
  rw [List.take_succ_eq_append_getElem (by omega), List.append_assoc]
  rfl
set_option maxRecDepth 100000 in
set_option maxHeartbeats 2000000 in
theorem refRead_any (A : Option Addr) (bs : List UInt8) (m cap : Nat) (w : World) (hb : BAt w A bs) (hm : bs.length = m) (hc : m ≤ cap) (hcap : m ≤ 140737488355328) :
    Calls Try.prog 24 #[.slice A m cap] w (RetRd w (readM bs)) := by
  have HB := Lib.hid hb
  have HM := Lib.hid hm
  have hu := Try.underlying23
  have HU := Lib.hid hu
  clear hb hm hu
  by_cases h1 : 1 ≤ m
  · obtain ⟨ad, rfl, _⟩ := HB.out (by have := HM.out; omega)
    have hn8 := (bs.getD 0 0).toNat_lt
    generalize hn : (bs.getD 0 0).toNat = n at *
    have HNN := Lib.hid hn
    clear hn
    by_cases h2 : m = 1 + n + 34
    · have H2 := Lib.hid h2
      have h2a : 1 + n + 34 ≤ m := by omega
      have h2b : m ≤ 1 + n + 34 := by omega
      clear h2
      generalize hid : (bs.drop 1).take n = id
      have hidl : id.length ≤ 140737488355328 := by
        have := List.length_take_le n (bs.drop 1)
        rw [hid] at this
        omega
      generalize hl : be (((bs.drop 1).drop n).take 2) = l
      have hrm := readM_eq bs id m n l HM.out HNN.out hid hl
      have hl16 := be_lt (((bs.drop 1).drop n).take 2)
      rw [hl, List.length_take_of_le (by have := HM.out; simp; omega)] at hl16
      have HID := Lib.hid hid
      have HL := Lib.hid hl
      have hcut : ∀ W : World, (Instr.sliceAt 28 (.slice (some ad) m cap) (some (.int .i64 1)) (some (.int .i64 (1 + (n : Int)))) none).run Try.prog W = .ok (.slice (cutA (some ad) cap 1) n (cap - 1)) W := fun W => by
        have := run_cut_lh (P := Try.prog) 28 5 byteTy (some ad) m cap .i64 .i64 1 (1 + (n : Int)) 1 (1 + n) rfl (by omega) (by omega) (by omega) W
        rwa [Nat.add_sub_cancel_left] at this
      have hcut2 := fun (W : World) => run_cut_l (P := Try.prog) 28 5 byteTy (some ad) m cap .i64 (1 + (n : Int)) (1 + n) (by omega) (by omega) W
      have heq : ((m : Int) != 1 + (n : Int) + 34) = false := by simp; omega
      clear hl16 hid hl
      have hl16 : l < 65536 := by
        have := be_lt (((bs.drop 1).drop n).take 2)
        rw [HL.out, List.length_take_of_le (by have := HM.out; simp; omega)] at this
        omega
      have HRM := Lib.hid hrm
      clear hrm
      go_enter Try.func24, Try.ntmps24
      go_wp2_with
        (refine wpList_store_whole rfl 23 (.tmp 6) (.tmp 11) rfl (w.heap.size + 1) 23 ((List.replicate 32 (0 : UInt8)).map B8) ((List.replicate 32 (0 : UInt8)).map B8) rfl rfl (Blk.new_at _ _ (by simp) _ _) rfl (by rw [hash_size]; simp) (cells_one _) ?_
         intro W hb2 hg2 hz2
         have HT := Lib.hid (Two.made hb2 hg2)
         have HBW := Lib.hid (HB.out.below HT.out.below)
         have hc0 : W.cell? ad = some (.int .u8 (n : Int)) := by
           obtain ⟨ad', e, hc⟩ := HBW.out (by have := HM.out; omega)
           injection e with e; subst e
           have := hc 0 (by have := HM.out; omega)
           rw [addr_zero] at this
           rw [this, ← HNN.out]; rfl
         have hconv := run_toString (P := Try.prog) (w := W) (ts := 9) (n := n) byteTy strTy (cap - 1) ((HBW.out.cut cap 1 (by have := HM.out; omega)).take n) (by rw [List.length_take_of_le (by have := HM.out; simp; omega)])
         rw [HID.out, show ByteArray.mk id.toArray = S8 id from rfl] at hconv
         clear hb2 hg2 hz2)
      have HG := Lib.hid (get_any (cutA (some ad) cap (1 + n)) (bs.drop (1 + n)) (m - (1 + n)) (cap - (1 + n)) 2 W (by have := HM.out; simp; omega) (by omega) (by omega) (HBW.out.cut cap (1 + n) (by have := HM.out; omega)))
      rw [← List.drop_drop, HL.out] at HG
      go_wp2_with fail
      refine HG.out.mono ?_
      rintro e W' ⟨rfl, rfl⟩
      clear HG hconv hc0 hcut hcut2
      go_wp2_with fail
      refine (refName_any id hidl _).mono ?_
      rintro e W'' ⟨rfl, rfl⟩
      cases hna : nameM id
      · have HR : Hid (readM bs = none) := Lib.hid (by rw [HRM.out, hna]; simp)
        clear hna
        go_wp2_with fail
        have hu := HU.out
        have h1c := cells_one (List.replicate 32 0)
        have hlen : ((List.replicate 32 (0 : UInt8)).map B8).length = 32 := by simp
        have HT2 := Lib.hid HT.out.drew
        have HE : Hid (∀ wr : World, Two w wr (List.replicate 32 0) (List.replicate 32 0) → wr.rangeAt (w.heap.size + 1) 0 ((List.replicate 32 (0 : UInt8)).map B8) ∧ wr.there w.heap.size 0 32) := Lib.hid fun wr h => h.ranges
        have HF : Hid (∀ wr : World, Two w wr (List.replicate 32 0) (List.replicate 32 0) → Two w (wr.setCells w.heap.size 0 ((List.replicate 32 (0 : UInt8)).map B8)) (List.replicate 32 0) (List.replicate 32 0)) := Lib.hid fun wr h => h.stored
        generalize (List.replicate 32 (0 : UInt8)).map B8 = cs at *
        have hi : (Try.prog.info? 23).map (·.size) = some cs.length := by rw [hash_size, hlen]
        go_region_held3 (fun w' => w'.rangeAt (w.heap.size + 1) 0 cs ∧ w'.there w.heap.size 0 32)
          (first
            | exact HE.out _ HT2.out
            | exact HE.out _ (HF.out _ HT2.out)) (fail)
        have HT3 := Lib.hid (HF.out _ HT2.out)
        have hl := load_hash HT3.out.ba (by simp)
        rw [show (((List.replicate 32 (0 : UInt8)).map B8).toArray : Array Value) = cellsOf (List.replicate 32 0) from rfl] at hl
        clear hu h1c hi
        go_wp2
        refine bodyPost_ret (v := .tuple #[.string (S8 []), .int .i64 0, .agg (cellsOf (List.replicate 32 0)), .int .i64 110]) ?_ rfl ⟨HT3.out.below, .inl ⟨HR.out, rfl⟩⟩
        simp [results, Try.results24, asAddr, hl, Sem.run_bind, S8]
      · by_cases hl5 : l ≤ 512
        · have HR : Hid (readM bs = some (id, l, (bs.drop (3 + n)).take 32)) := Lib.hid (by rw [HRM.out, if_pos ⟨h1, H2.out, hna, hl5⟩])
          have hgt : ¬ (512 : Int) < (l : Int) := by omega
          have hrl : ((bs.drop (3 + n)).take 32).length = 32 := List.length_take_of_le (by have := HM.out; simp; omega)
          have hrc : ∀ k, k < 32 → ∃ c, ((bs.drop (3 + n)).take 32).getD k 0 = c ∧ ∀ wr, Below w.heap.size w wr → wr.cell? (ad.add (3 + n + k)) = some (.int .u8 (V8 c)) := fun k hk => by
            refine ⟨_, rfl, fun wr hb => ?_⟩
            obtain ⟨ad', e, hc⟩ := (HB.out.below hb) (by have := HM.out; omega)
            injection e with e; subst e
            rw [hc _ (by have := HM.out; omega)]
            simp [List.getD, List.getElem?_take, hk]
          have HRL := Lib.hid hrl
          have HRC := Lib.hid hrc
          clear hna hrl hrc
          generalize (bs.drop (3 + n)).take 32 = root at *
          go_wp2_with fail
          go_loopw [10] (fun iv wr => RootRel w root iv wr) (fun iv _ => 32 - (intOf iv).toNat)
          case atStart => exact ⟨0, by omega, rfl, by simpa using HT.out⟩
          case round =>
            obtain ⟨k, hk, rfl, hT⟩ := hrel
            have HTk := Lib.hid hT
            clear hT
            by_cases hlt : k < 32
            · obtain ⟨c, hc, hcell⟩ := HRC.out k hlt
              have hc1 := hcell wr HTk.out.below
              have HC := Lib.hid hc
              have hbc := HTk.out.bb.cell k
              have hbz := HTk.out.bb.frozen k
              obtain ⟨v, hv⟩ : ∃ v, wr.cell? ⟨w.heap.size + 1, k, none⟩ = some v := by
                rw [hbc]
                exact ⟨_, by rw [List.getElem?_toArray]; exact List.getElem?_eq_getElem (by have := HRL.out; simp; omega)⟩
              clear hc hcell hbc
              go_wp2
              go_roundw
              case rel => exact ⟨k + 1, hlt, by go_num, by rw [← root_step root k hlt HRL.out, HC.out]; exact HTk.out.setb k c⟩
              case measure => simp [intOf]; omega
            · obtain rfl : k = 32 := by omega
              have hT := HTk.out
              rw [show root.take 32 ++ List.replicate (32 - 32) 0 = root by rw [List.take_of_length_le (by rw [HRL.out]; exact Nat.le_refl _)]; simp] at hT
              have HT1 := Lib.hid hT
              clear hT
              go_wp2_with fail
              have hu := HU.out
              have h1c := cells_one root
              have hlen : (root.map B8).length = 32 := by simp [HRL.out]
              have HT2 := Lib.hid HT1.out.drew
              have HE : Hid (∀ (x : World) (a : List UInt8), Two w x a root → x.rangeAt (w.heap.size + 1) 0 (root.map B8) ∧ x.there w.heap.size 0 32) := Lib.hid fun x a h => h.ranges
              have HF : Hid (∀ (x : World) (a : List UInt8), Two w x a root → Two w (x.setCells w.heap.size 0 (root.map B8)) root root) := Lib.hid fun x a h => h.stored
              have HCS := Lib.hid (show (root.map B8).toArray = cellsOf root from rfl)
              generalize root.map B8 = cs at *
              have hi : (Try.prog.info? 23).map (·.size) = some cs.length := by rw [hash_size, hlen]
              go_region_held3 (fun w' => w'.rangeAt (w.heap.size + 1) 0 cs ∧ w'.there w.heap.size 0 32)
                (first
                  | exact HE.out _ _ HT2.out
                  | exact HE.out _ _ (HF.out _ _ HT2.out)) (fail)
              have HT3 := Lib.hid (HF.out _ _ HT2.out)
              have hl := load_hash HT3.out.ba (by simp [HRL.out])
              rw [show ((root.map B8).toArray : Array Value) = cellsOf root from rfl] at hl
              clear hu h1c hi
              go_wp2
              refine bodyPost_ret (v := .tuple #[.string (S8 id), .int .i64 l, .agg (cellsOf root), .int .i64 0]) ?_ rfl ⟨HT3.out.below, .inr ⟨_, _, _, HR.out, HRL.out, rfl⟩⟩
              simp [results, Try.results24, asAddr, hl, Sem.run_bind]
        · have HR : Hid (readM bs = none) := Lib.hid (by rw [HRM.out, if_neg]; omega)
          have hgt : (512 : Int) < (l : Int) := by omega
          clear hna
          go_wp2_with fail
          have hu := HU.out
          have h1c := cells_one (List.replicate 32 0)
          have hlen : ((List.replicate 32 (0 : UInt8)).map B8).length = 32 := by simp
          have HT2 := Lib.hid HT.out.drew
          have HE : Hid (∀ wr : World, Two w wr (List.replicate 32 0) (List.replicate 32 0) → wr.rangeAt (w.heap.size + 1) 0 ((List.replicate 32 (0 : UInt8)).map B8) ∧ wr.there w.heap.size 0 32) := Lib.hid fun wr h => h.ranges
          have HF : Hid (∀ wr : World, Two w wr (List.replicate 32 0) (List.replicate 32 0) → Two w (wr.setCells w.heap.size 0 ((List.replicate 32 (0 : UInt8)).map B8)) (List.replicate 32 0) (List.replicate 32 0)) := Lib.hid fun wr h => h.stored
          generalize (List.replicate 32 (0 : UInt8)).map B8 = cs at *
          have hi : (Try.prog.info? 23).map (·.size) = some cs.length := by rw [hash_size, hlen]
          go_region_held3 (fun w' => w'.rangeAt (w.heap.size + 1) 0 cs ∧ w'.there w.heap.size 0 32)
            (first
              | exact HE.out _ HT2.out
              | exact HE.out _ (HF.out _ HT2.out)) (fail)
          have HT3 := Lib.hid (HF.out _ HT2.out)
          have hl := load_hash HT3.out.ba (by simp)
          rw [show (((List.replicate 32 (0 : UInt8)).map B8).toArray : Array Value) = cellsOf (List.replicate 32 0) from rfl] at hl
          clear hu h1c hi
          go_wp2
          refine bodyPost_ret (v := .tuple #[.string (S8 []), .int .i64 0, .agg (cellsOf (List.replicate 32 0)), .int .i64 110]) ?_ rfl ⟨HT3.out.below, .inl ⟨HR.out, rfl⟩⟩
          simp [results, Try.results24, asAddr, hl, Sem.run_bind, S8]
    · have HR : Hid (readM bs = none) := Lib.hid (by unfold readM; rw [if_neg]; have := HM.out; rw [HNN.out]; omega)
      have hne : ((m : Int) == 1 + (n : Int) + 34) = false := by simp; omega
      have hne' : ((m : Int) != 1 + (n : Int) + 34) = true := by simp; omega
      go_enter Try.func24, Try.ntmps24
      go_wp2_with
        (refine wpList_store_whole rfl 23 (.tmp 6) (.tmp 11) rfl (w.heap.size + 1) 23 ((List.replicate 32 (0 : UInt8)).map B8) ((List.replicate 32 (0 : UInt8)).map B8) rfl rfl (Blk.new_at _ _ (by simp) _ _) rfl (by rw [hash_size]; simp) (cells_one _) ?_
         intro W hb2 hg2 hz2
         have HT := Lib.hid (Two.made hb2 hg2)
         have HBW := Lib.hid (HB.out.below HT.out.below)
         have hc0 : W.cell? ad = some (.int .u8 (n : Int)) := by
           obtain ⟨ad', e, hc⟩ := HBW.out (by have := HM.out; omega)
           injection e with e; subst e
           have := hc 0 (by have := HM.out; omega)
           rw [addr_zero] at this
           rw [this, ← HNN.out]; rfl
         clear hb2 hg2 hz2)
      have hu := HU.out
      have h1c := cells_one (List.replicate 32 0)
      have hlen : ((List.replicate 32 (0 : UInt8)).map B8).length = 32 := by simp
      have HT2 := Lib.hid HT.out.drew
      have HE : Hid (∀ wr : World, Two w wr (List.replicate 32 0) (List.replicate 32 0) → wr.rangeAt (w.heap.size + 1) 0 ((List.replicate 32 (0 : UInt8)).map B8) ∧ wr.there w.heap.size 0 32) := Lib.hid fun wr h => h.ranges
      have HF : Hid (∀ wr : World, Two w wr (List.replicate 32 0) (List.replicate 32 0) → Two w (wr.setCells w.heap.size 0 ((List.replicate 32 (0 : UInt8)).map B8)) (List.replicate 32 0) (List.replicate 32 0)) := Lib.hid fun wr h => h.stored
      generalize (List.replicate 32 (0 : UInt8)).map B8 = cs at *
      have hi : (Try.prog.info? 23).map (·.size) = some cs.length := by rw [hash_size, hlen]
      go_region_held3 (fun w' => w'.rangeAt (w.heap.size + 1) 0 cs ∧ w'.there w.heap.size 0 32)
        (first
          | exact HE.out _ HT2.out
          | exact HE.out _ (HF.out _ HT2.out)) (fail)
      have HT3 := Lib.hid (HF.out _ HT2.out)
      have hl := load_hash HT3.out.ba (by simp)
      rw [show (((List.replicate 32 (0 : UInt8)).map B8).toArray : Array Value) = cellsOf (List.replicate 32 0) from rfl] at hl
      clear hu h1c hi
      go_wp2
      refine bodyPost_ret (v := .tuple #[.string (S8 []), .int .i64 0, .agg (cellsOf (List.replicate 32 0)), .int .i64 110]) ?_ rfl ⟨HT3.out.below, .inl ⟨HR.out, rfl⟩⟩
      simp [results, Try.results24, asAddr, hl, Sem.run_bind, S8]
  · have HR : Hid (readM bs = none) := Lib.hid (by unfold readM; rw [if_neg]; have := HM.out; omega)
    obtain rfl : m = 0 := by omega
    go_enter Try.func24, Try.ntmps24
    go_wp2_with
      (refine wpList_store_whole rfl 23 (.tmp 6) (.tmp 11) rfl (w.heap.size + 1) 23 ((List.replicate 32 (0 : UInt8)).map B8) ((List.replicate 32 (0 : UInt8)).map B8) rfl rfl (Blk.new_at _ _ (by simp) _ _) rfl (by rw [hash_size]; simp) (cells_one _) ?_
       intro W hb2 hg2 hz2
       have HT := Lib.hid (Two.made hb2 hg2)
       clear hb2 hg2 hz2)
    have hu := HU.out
    have h1c := cells_one (List.replicate 32 0)
    have hlen : ((List.replicate 32 (0 : UInt8)).map B8).length = 32 := by simp
    have HT2 := Lib.hid HT.out.drew
    have HE : Hid (∀ wr : World, Two w wr (List.replicate 32 0) (List.replicate 32 0) → wr.rangeAt (w.heap.size + 1) 0 ((List.replicate 32 (0 : UInt8)).map B8) ∧ wr.there w.heap.size 0 32) := Lib.hid fun wr h => h.ranges
    have HF : Hid (∀ wr : World, Two w wr (List.replicate 32 0) (List.replicate 32 0) → Two w (wr.setCells w.heap.size 0 ((List.replicate 32 (0 : UInt8)).map B8)) (List.replicate 32 0) (List.replicate 32 0)) := Lib.hid fun wr h => h.stored
    generalize (List.replicate 32 (0 : UInt8)).map B8 = cs at *
    have hi : (Try.prog.info? 23).map (·.size) = some cs.length := by rw [hash_size, hlen]
    go_region_held3 (fun w' => w'.rangeAt (w.heap.size + 1) 0 cs ∧ w'.there w.heap.size 0 32)
      (first
        | exact HE.out _ HT2.out
        | exact HE.out _ (HF.out _ HT2.out)) (fail)
    have HT3 := Lib.hid (HF.out _ HT2.out)
    have hl := load_hash HT3.out.ba (by simp)
    rw [show (((List.replicate 32 (0 : UInt8)).map B8).toArray : Array Value) = cellsOf (List.replicate 32 0) from rfl] at hl
    clear hu h1c hi
    go_wp2
    refine bodyPost_ret (v := .tuple #[.string (S8 []), .int .i64 0, .agg (cellsOf (List.replicate 32 0)), .int .i64 110]) ?_ rfl ⟨HT3.out.below, .inl ⟨HR.out, rfl⟩⟩
    simp [results, Try.results24, asAddr, hl, Sem.run_bind, S8]
end Go.Proofs.Ytomncfiklkhfjaa.Rec
