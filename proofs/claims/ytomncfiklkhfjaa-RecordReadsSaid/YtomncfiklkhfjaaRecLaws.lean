/- The laws of entries and of unlike bytes: each returns true for any bytes, and leaves all that was there. -/
import Derived.Test.YtomncfiklkhfjaaRecShown
import Derived.Test.YtomncfiklkhfjaaRecPlain
import Derived.Test.YtomncfiklkhfjaaRecRefRead
namespace Go.Proofs.Ytomncfiklkhfjaa.Rec
open Go.RowKit Mem Crc _root_.Go.Proofs.Ytomncfiklkhfjaa.Frame
attribute [local go_sem] S8_size S8_toList
theorem below_set_new {w w1 w2 : World} (h : Below w.heap.size w w1) {o : Obj} (hg : (w1.alloc o).grownBy w2 (some w1.heap.size)) : Below w1.heap.size w1 w2 :=
  (below_al' (w := w1) o).grown hg (by simp) (fun k hk => by injection hk with hk; omega)
theorem entry_idlen {id root b : List UInt8} {l : Int} (h : entryM id l root = some b) : id.length ≤ 16 := by
  unfold entryM at h
  split at h
  · rename_i hc
    rw [Bool.and_eq_true] at hc
    exact (name_len hc.1).2
  · cases h
set_option maxRecDepth 100000 in
set_option maxHeartbeats 4000000 in
theorem lawEntries (A : Option Addr) (bs : List UInt8) (m cap : Nat) (w : World) (hm : bs.length = m) (hc : m ≤ cap) (hcap : m ≤ 140737488355328) (hb : BAt w A bs) :
    Calls Try.prog 5 #[.slice A m cap] w fun e w' => e = .returned (.bool true) ∧ Below w.heap.size w w' := by
  have HB := Lib.hid hb
  have HM := Lib.hid hm
  clear hb hm
  cases hr : readM bs with
  | none =>
    have HRD := Lib.hid hr
    clear hr
    go_enter Try.func5, Try.ntmps5
    go_wp2_with fail
    refine (shown_any w).mono ?_
    rintro e w1 ⟨rfl, hb1⟩
    have HW1 := Lib.hid hb1
    have HB1 := Lib.hid (HB.out.below hb1)
    clear hb1
    go_wp2_with fail
    have hq := read_any A bs m cap w1 HB1.out HM.out hc hcap
    rw [HRD.out] at hq
    refine hq.mono ?_
    clear hq
    rintro e w2 ⟨hb2, ⟨_, rfl⟩ | ⟨_, _, _, h, _⟩⟩
    case inr => cases h
    have HW2 := Lib.hid (HW1.out.trans (hb2.mono HW1.out.size))
    have HB2 := Lib.hid (HB1.out.below hb2)
    clear hb2
    go_wp2_with
      (refine wpList_store_whole rfl 23 (.tmp 6) (.tmp 20) rfl w2.heap.size 23 ((List.replicate 32 (0 : UInt8)).map B8) ((List.replicate 32 0).map B8) rfl rfl (Blk.new w2 _ _) (by simp [List.length_replicate]) (by rw [hash_size]; simp [List.length_replicate]) (cells_one _) ?_
       intro w3 hb3 hg3 hz3
       have HZ3 := Lib.hid (below_set_new HW2.out hg3)
       have HG3 := Lib.hid hb3
       clear hb3 hg3 hz3)
    have HW3 := Lib.hid (HW2.out.trans (HZ3.out.mono HW2.out.size))
    have HB3 := Lib.hid (HB2.out.below HZ3.out)
    have hq := refRead_any A bs m cap w3 HB3.out HM.out hc hcap
    rw [HRD.out] at hq
    refine hq.mono ?_
    clear hq
    rintro e w4 ⟨hb4, ⟨_, rfl⟩ | ⟨_, _, _, h, _⟩⟩
    case inr => cases h
    have HW4 := Lib.hid (HW3.out.trans (hb4.mono HW3.out.size))
    have HG4 := Lib.hid (HG3.out.below_ hb4)
    have HB4 := Lib.hid (HB3.out.below hb4)
    have hl4 := HG4.out.lt
    clear hb4
    go_wp2_with
      (refine wpList_store_whole rfl 23 (.tmp 10) (.tmp 27) rfl w4.heap.size 23 ((List.replicate 32 (0 : UInt8)).map B8) ((List.replicate 32 0).map B8) rfl rfl (Blk.new w4 _ _) (by simp [List.length_replicate]) (by rw [hash_size]; simp [List.length_replicate]) (cells_one _) ?_
       intro w5 hb5 hg5 hz5
       have HZ5 := Lib.hid (below_set_new HW4.out hg5)
       have HG5 := Lib.hid (HG4.out.below_ HZ5.out)
       have HB5 := Lib.hid (HB4.out.below HZ5.out)
       have HH5 := Lib.hid hb5
       have HW5 := Lib.hid (HW4.out.trans (HZ5.out.mono HW4.out.size))
       clear hb5 hg5 hz5
       go_wp2_with
         (refine wpList_load_mid_g (op := ⟨some 42, _, _, _, _, _⟩) (by rfl) 23 (.tmp 6) rfl w2.heap.size 0 rfl ((List.replicate 32 0).map B8) _ (blk_range HG5.out) arrTy rfl (by rw [hash_size]; simp [List.length_replicate]) ?_
          refine wpList_load_mid_g (op := ⟨some 43, _, _, _, _, _⟩) (by rfl) 23 (.tmp 10) rfl w4.heap.size 0 rfl ((List.replicate 32 0).map B8) _ (blk_range HH5.out) arrTy rfl (by rw [hash_size]; simp [List.length_replicate]) ?_
          refine wpList_neq_bytes (op := ⟨some 44, _, _, _, _, _⟩) (by rfl) 23 5 32 (.tmp 42) (.tmp 43) _ rfl (List.replicate 32 0) (List.replicate 32 0) rfl rfl arrTy Try.underlying5 hash_unit (by simp [List.length_replicate]) (by simp [List.length_replicate]) hash_guard ?_
          go_wp2_with fail
          go_ret
          exact ⟨rfl, HW5.out⟩))
  | some x =>
    have HRD := Lib.hid hr
    clear hr
    obtain ⟨id, l, root⟩ := x
    have HEN := Lib.hid (read_entry HRD.out)
    have HIDL := Lib.hid (entry_idlen HEN.out)
    go_enter Try.func5, Try.ntmps5
    go_wp2_with fail
    refine (shown_any w).mono ?_
    rintro e w1 ⟨rfl, hb1⟩
    have HW1 := Lib.hid hb1
    have HB1 := Lib.hid (HB.out.below hb1)
    clear hb1
    go_wp2_with fail
    have hq := read_any A bs m cap w1 HB1.out HM.out hc hcap
    rw [HRD.out] at hq
    refine hq.mono ?_
    clear hq
    rintro e w2 ⟨hb2, ⟨h, _⟩ | ⟨_, _, _, h, h32, rfl⟩⟩
    case inl => cases h
    injection h with h
    injection h with e1 h
    injection h with e2 e3
    subst e1 e2 e3
    have H32 := Lib.hid h32
    clear h32
    have HW2 := Lib.hid (HW1.out.trans (hb2.mono HW1.out.size))
    have HB2 := Lib.hid (HB1.out.below hb2)
    clear hb2
    go_wp2_with
      (refine wpList_store_whole rfl 23 (.tmp 6) (.tmp 20) rfl w2.heap.size 23 ((List.replicate 32 (0 : UInt8)).map B8) ((root).map B8) rfl rfl (Blk.new w2 _ _) (by simp [H32.out]) (by rw [hash_size]; simp [H32.out]) (cells_one _) ?_
       intro w3 hb3 hg3 hz3
       have HZ3 := Lib.hid (below_set_new HW2.out hg3)
       have HG3 := Lib.hid hb3
       clear hb3 hg3 hz3)
    have HW3 := Lib.hid (HW2.out.trans (HZ3.out.mono HW2.out.size))
    have HB3 := Lib.hid (HB2.out.below HZ3.out)
    have hq := refRead_any A bs m cap w3 HB3.out HM.out hc hcap
    rw [HRD.out] at hq
    refine hq.mono ?_
    clear hq
    rintro e w4 ⟨hb4, ⟨h, _⟩ | ⟨_, _, _, h, _, rfl⟩⟩
    case inl => cases h
    injection h with h
    injection h with e1 h
    injection h with e2 e3
    subst e1 e2 e3
    have HW4 := Lib.hid (HW3.out.trans (hb4.mono HW3.out.size))
    have HG4 := Lib.hid (HG3.out.below_ hb4)
    have HB4 := Lib.hid (HB3.out.below hb4)
    have hl4 := HG4.out.lt
    clear hb4
    go_wp2_with
      (refine wpList_store_whole rfl 23 (.tmp 10) (.tmp 27) rfl w4.heap.size 23 ((List.replicate 32 (0 : UInt8)).map B8) ((root).map B8) rfl rfl (Blk.new w4 _ _) (by simp [H32.out]) (by rw [hash_size]; simp [H32.out]) (cells_one _) ?_
       intro w5 hb5 hg5 hz5
       have HZ5 := Lib.hid (below_set_new HW4.out hg5)
       have HG5 := Lib.hid (HG4.out.below_ HZ5.out)
       have HB5 := Lib.hid (HB4.out.below HZ5.out)
       have HH5 := Lib.hid hb5
       have HW5 := Lib.hid (HW4.out.trans (HZ5.out.mono HW4.out.size))
       clear hb5 hg5 hz5
       go_wp2_with
         (refine wpList_load_mid_g (op := ⟨some 42, _, _, _, _, _⟩) (by rfl) 23 (.tmp 6) rfl w2.heap.size 0 rfl ((root).map B8) _ (blk_range HG5.out) arrTy rfl (by rw [hash_size]; simp [H32.out]) ?_
          refine wpList_load_mid_g (op := ⟨some 43, _, _, _, _, _⟩) (by rfl) 23 (.tmp 10) rfl w4.heap.size 0 rfl ((root).map B8) _ (blk_range HH5.out) arrTy rfl (by rw [hash_size]; simp [H32.out]) ?_
          refine wpList_neq_bytes (op := ⟨some 44, _, _, _, _, _⟩) (by rfl) 23 5 32 (.tmp 42) (.tmp 43) _ rfl (root) (root) rfl rfl arrTy Try.underlying5 hash_unit (by simp [H32.out]) (by simp [H32.out]) hash_guard ?_
          go_wp2_with
            (refine wpList_load_mid rfl 23 (.tmp 6) rfl w2.heap.size 0 rfl (root.map B8) _ (blk_range HG5.out) arrTy rfl (by rw [hash_size]; simp [H32.out]) ?_
             go_wp2_with fail
             have hq := entry_any id l root H32.out w5 (by have := HIDL.out; omega)
             rw [HEN.out] at hq
             refine hq.mono ?_
             clear hq
             rintro e w6 ⟨hb6, ⟨h, _⟩ | ⟨A6, N6, c6, _, h, rfl, ho6⟩⟩
             case inl => cases h
             injection h with h
             subst h
             obtain rfl : N6 = m := by rw [← ho6.len]; exact HM.out
             have hc1 := run_toString (P := Try.prog) (w := w6) (ts := 9) byteTy strTy c6 ho6.bat HM.out
             have hc2 := run_toString (P := Try.prog) (w := w6) (ts := 9) byteTy strTy cap (HB5.out.below hb6) HM.out
             rw [show ByteArray.mk bs.toArray = S8 bs from rfl] at hc1 hc2
             have HW6 := Lib.hid (HW5.out.trans (hb6.mono HW5.out.size))
             clear hb6 ho6
             go_wp2_with fail
             go_ret
             exact ⟨rfl, HW6.out⟩)))
end Go.Proofs.Ytomncfiklkhfjaa.Rec
