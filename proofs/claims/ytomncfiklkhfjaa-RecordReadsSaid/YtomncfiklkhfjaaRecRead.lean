/- The walks of the reading of entries. -/
import Derived.Test.YtomncfiklkhfjaaRecTake
import Derived.Deep.RegionWith
namespace Go.Proofs.Ytomncfiklkhfjaa.Rec
open Go.RowKit Mem Crc _root_.Go.Proofs.Ytomncfiklkhfjaa.Frame
attribute [local go_sem] S8_size
/-- P11.4: an entry out of bytes. -/
def readM (bs : List UInt8) : Option (List UInt8 × Nat × List UInt8) :=
  if 1 ≤ bs.length ∧ bs.length = 1 + (bs.getD 0 0).toNat + 34 ∧ nameM ((bs.drop 1).take (bs.getD 0 0).toNat) = true ∧ be ((bs.drop (1 + (bs.getD 0 0).toNat)).take 2) ≤ 512 then
    some ((bs.drop 1).take (bs.getD 0 0).toNat, be ((bs.drop (1 + (bs.getD 0 0).toNat)).take 2), (bs.drop (3 + (bs.getD 0 0).toNat)).take 32)
  else none
/-- An entry that was read, or refused (what else comes back then is not looked at). -/
def RetE (w : World) (r : Option (List UInt8 × Nat × List UInt8)) (e : Ending) (w' : World) : Prop :=
  Below w.heap.size w w' ∧ ((r = none ∧ ∃ (s : ByteArray) (l : Int) (rb : List UInt8), rb.length = 32 ∧ e = .returned (.tuple #[.string s, .int .i64 l, .agg (cellsOf rb), .int .i64 110])) ∨
    ∃ id l root, r = some (id, l, root) ∧ root.length = 32 ∧ e = .returned (.tuple #[.string (S8 id), .int .i64 (l : Nat), .agg (cellsOf root), .int .i64 0]))
theorem readM_eq (bs id : List UInt8) (m n l : Nat) (hm : bs.length = m) (hn : (bs.getD 0 0).toNat = n) (hid : (bs.drop 1).take n = id) (hl : be (((bs.drop 1).drop n).take 2) = l) :
    readM bs = if 1 ≤ m ∧ m = 1 + n + 34 ∧ nameM id = true ∧ l ≤ 512 then some (id, l, (bs.drop (3 + n)).take 32) else none := by
  unfold readM
  rw [List.drop_drop] at hl
  rw [hn, hm, hid, hl]
theorem be_one (bs : List UInt8) (h : 1 ≤ bs.length) : be (bs.take 1) = (bs.getD 0 0).toNat := by
  cases bs with
  | nil => simp at h
  | cons c r => simp [be]
/-- What the reading of an entry has in memory: the root, the error. -/
structure Es (w wr : World) (root : Array Value) : Prop where
  blk : Blk wr w.heap.size 23 root
  size : root.size = 32
  err : Blk wr (w.heap.size + 1) 29 #[.int .i64 0]
  below : Below w.heap.size w wr
theorem blk_range {w : World} {g : Nat} {t : TypeId} {cs : Array Value} (h : Blk w g t cs) : w.rangeAt g 0 cs.toList := fun j v hv => by
  rw [Nat.zero_add, h.cell]
  simpa using hv
theorem hash_size : (Try.prog.info? 23).map (·.size) = some 32 := by kernel_rfl
theorem load_hash {w : World} {g : Nat} {cs : Array Value} (h : Blk w g 23 cs) (h32 : cs.size = 32) : (loadVar 23 ⟨g, 0, none⟩).run Try.prog w = .ok (.agg cs) w := by
  have := run_loadVar_mid (P := Try.prog) w g 0 23 cs.toList _ (blk_range h) Try.underlying23 rfl (by rw [hash_size]; simp [h32])
  simpa using this
theorem load_err {w : World} {g : Nat} {x : Int} (h : Blk w g 29 #[.int .i64 x]) : (loadVar 29 ⟨g, 0, none⟩).run Try.prog w = .ok (.int .i64 x) w := by
  have hc := h.cell 0
  simp at hc
  simp [go_sem, hc]
/-- As a drawn region asks it of a world. -/
theorem Es.ranges {w wr : World} {cs : List Value} (h : Es w wr cs.toArray) : wr.rangeAt w.heap.size 0 cs ∧ wr.there w.heap.size 0 32 ∧ wr.cell? ⟨w.heap.size + 1, 0, none⟩ = some (.int .i64 0) ∧ wr.frozen? ⟨w.heap.size + 1, 0, none⟩ = false := by
  refine ⟨by simpa using blk_range h.blk, fun j hj => ⟨by rw [Nat.zero_add, h.blk.cell]; have := h.size; simp at this ⊢; omega, h.blk.frozen _⟩, by rw [h.err.cell]; rfl, h.err.frozen _⟩
theorem Es.sets {w wr : World} {cs : List Value} (h : Es w wr cs.toArray) : wr.setCells w.heap.size 0 cs = wr := blk_sets_self h.blk cs 0 fun j v hv => by rw [Nat.zero_add]; simpa using hv
theorem Es.set0 {w wr : World} {root : Array Value} (h : Es w wr root) : wr.setCell ⟨w.heap.size + 1, 0, none⟩ (.int .i64 0) = wr := blk_set_self h.err 0 _ rfl
theorem cells_one (bs : List UInt8) : ∀ v ∈ bs.map B8, v.oneCell' = true := by
  intro v hv
  obtain ⟨b, _, rfl⟩ := List.mem_map.1 hv
  rfl
theorem entry_fails {w wr : World} {rb : List UInt8} {tmps : Array Value} {s : ByteArray} {l : Int} (h : Es w wr (cellsOf rb)) (h2 : tmps.getD 2 undef = .string s) (h3 : tmps.getD 3 undef = .int .i64 l)
    (h4 : tmps.getD 4 undef = .pointer (some ⟨w.heap.size, 0, none⟩)) (h5 : tmps.getD 5 undef = .pointer (some ⟨w.heap.size + 1, 0, none⟩)) :
    bodyPostD Try.prog Try.f62 (RetE w none) (Exit.panic thrown) { tmps := tmps, defers := [{ target := Target.fn (Fn.func 84) #[], args := #[.pointer (some ⟨w.heap.size + 1, 0, none⟩)] }] } wr := by
  refine leaves_cons (f := 84) (args := #[.pointer (some ⟨w.heap.size + 1, 0, none⟩)]) (by simp) (by simp [go_sem]) ?_
  refine (caught_panicking (w.heap.size + 1) 0 wr h.err).mono ?_
  rintro e u' w'' ⟨rfl, rfl, rfl⟩
  have hz := h.below.size
  have hl := load_hash (((h.blk.alloc (.cells #[] 130)).far (p := ⟨w.heap.size + 1, 0, none⟩) (by simp) (.int .i64 110))) h.size
  have hr := load_err ((h.err.alloc (.cells #[] 130)).set_ 0 (.int .i64 110))
  refine ⟨.tuple #[.string s, .int .i64 l, .agg (cellsOf rb), .int .i64 110], ?_, ?_, .inl ⟨rfl, s, l, rb, by have := h.size; simpa [cellsOf] using this, rfl⟩⟩
  · simp only [Array.getD_eq_getD_getElem?] at h2 h3 h4 h5
    simp [results, Try.results62, asAddr, h2, h3, h4, h5, hl, hr, Sem.run_bind]
  · exact (h.below.alloc hz _).setCell (by simp) _
theorem entry_ok {w wr : World} {rb id : List UInt8} {tmps : Array Value} {l : Nat} (h : Es w wr (cellsOf rb)) (h2 : tmps.getD 2 undef = .string (S8 id)) (h3 : tmps.getD 3 undef = .int .i64 l)
    (h4 : tmps.getD 4 undef = .pointer (some ⟨w.heap.size, 0, none⟩)) (h5 : tmps.getD 5 undef = .pointer (some ⟨w.heap.size + 1, 0, none⟩)) :
    bodyPostD Try.prog Try.f62 (RetE w (some (id, l, rb))) Exit.ret { tmps := tmps, defers := [{ target := Target.fn (Fn.func 84) #[], args := #[.pointer (some ⟨w.heap.size + 1, 0, none⟩)] }] } wr := by
  refine leaves_cons (f := 84) (args := #[.pointer (some ⟨w.heap.size + 1, 0, none⟩)]) (by simp) (by simp [go_sem]) ?_
  refine (caught_idle ⟨w.heap.size + 1, 0, none⟩ wr).mono ?_
  rintro e u' w'' ⟨rfl, rfl, rfl⟩
  have hl := load_hash h.blk h.size
  have hr := load_err h.err
  refine ⟨.tuple #[.string (S8 id), .int .i64 l, .agg (cellsOf rb), .int .i64 0], ?_, h.below, .inr ⟨id, l, rb, rfl, by have := h.size; simpa [cellsOf] using this, rfl⟩⟩
  simp only [Array.getD_eq_getD_getElem?] at h2 h3 h4 h5
  simp [results, Try.results62, asAddr, h2, h3, h4, h5, hl, hr, Sem.run_bind]
theorem entry_made (w : World) (s : Value) : Es w (((w.alloc (.cells (cellsOf (List.replicate 32 0)) 23)).alloc (.cells #[.int .i64 0] 29)).alloc (.cells #[s] 122)) (cellsOf (List.replicate 32 0)) :=
  ⟨((Blk.new w _ _).alloc _).alloc _, by simp [cellsOf], (Blk.new_at _ _ (by simp) _ _).alloc _, (((Below.refl _ _).alloc (Nat.le_refl _) _).alloc (by simp) _).alloc (by simp; omega) _⟩
theorem rd_made (w : World) (A : Option Addr) (bs : List UInt8) (m cap : Nat) (hb : BAt w A bs) (hm : bs.length = m) (hc : m ≤ cap) (hcap : m ≤ 140737488355328) :
    Rd w (((w.alloc (.cells (cellsOf (List.replicate 32 0)) 23)).alloc (.cells #[.int .i64 0] 29)).alloc (.cells #[.slice A m cap] 122)) (w.heap.size + 2) A m cap bs :=
  ⟨hb, hm, hc, hcap, (entry_made w _).below, by omega, Blk.new_at _ _ (by simp) _ _⟩
theorem Es.grown {w wr w2 : World} {root : Array Value} (h : Es w wr root) (hg : wr.grownBy w2 (some (w.heap.size + 2))) : Es w w2 root :=
  ⟨h.blk.grown hg (by simp), h.size, h.err.grown hg (by simp), h.below.grown hg h.below.size (fun k hk => by injection hk with hk; omega)⟩
theorem Es.drew {w wr : World} {root : Array Value} (h : Es w wr root) : Es w wr.drew root := ⟨h.blk.drew, h.size, h.err.drew, below_drewN h.below 1⟩
theorem Es.copied {w wr w2 : World} {root root2 : Array Value} (h : Es w wr root) (hg : wr.grownBy w2 (some w.heap.size)) (hb : Blk w2 w.heap.size 23 root2) (h32 : root2.size = 32) : Es w w2 root2 :=
  ⟨hb, h32, h.err.grown hg (by simp), h.below.grown hg h.below.size (fun k hk => by injection hk with hk; omega)⟩
theorem copied_root (bs : List UInt8) (h : 32 ≤ bs.length) : (List.replicate 32 (0 : UInt8)).take 0 ++ (bs.take 32).take 32 ++ (List.replicate 32 (0 : UInt8)).drop (0 + 32) = bs.take 32 := by
  simp [List.take_take]
attribute [local go_sem ↓] Go.wp_at_zero Go.wp_at_succ
set_option maxRecDepth 100000 in
set_option maxHeartbeats 1000000 in
theorem entryR_any (A : Option Addr) (bs : List UInt8) (m cap : Nat) (w : World) (hb : BAt w A bs) (hm : bs.length = m) (hc : m ≤ cap) (hcap : m ≤ 140737488355328) :
    Calls Try.prog 62 #[.slice A m cap] w (RetE w (readM bs)) := by
  have HB := Lib.hid hb
  have HM := Lib.hid hm
  have HE := Lib.hid (entry_made w (.slice A m cap))
  have HRD := Lib.hid (rd_made w A bs m cap hb hm hc hcap)
  clear hb hm
  by_cases h1 : 1 ≤ m
  · go_enter_defers Try.func62, Try.ntmps62
    go_wp2_with fail
    refine (number_yes_ 1 HRD.out (Nat.le_refl _) (by omega) h1).mono ?_
    rintro e w1 ⟨rfl, hg1, hr1⟩
    rw [be_one bs (by rw [HM.out]; exact h1)]
    have HE1 := Lib.hid (HE.out.grown hg1)
    have HR1 := Lib.hid hr1
    clear hg1 hr1 HE
    have HN := Lib.hid (show readM bs = none → True from fun _ => trivial)
    generalize hn : (bs.getD 0 0).toNat = n at *
    have HNN := Lib.hid hn
    clear hn HN
    by_cases h2 : n ≤ m - 1
    · go_wp2_with fail
      refine (take_yes_ n HR1.out h2).mono ?_
      rintro e w2 ⟨rfl, hg2, hr2⟩
      have HE2 := Lib.hid (HE1.out.grown hg2)
      have HR2 := Lib.hid hr2
      have hconv := run_toString (P := Try.prog) (w := w2) (ts := 9) byteTy strTy (cap - 1) ((HR1.out.bat.take n).below hr2.below) (by rw [List.length_take_of_le (by rw [HR1.out.len]; exact h2)])
      rw [show ByteArray.mk ((bs.drop 1).take n).toArray = S8 ((bs.drop 1).take n) from rfl] at hconv
      clear hg2 hr2 HE1
      have HID := Lib.hid (show (bs.drop 1).take n = (bs.drop 1).take n from rfl)
      generalize hid : (bs.drop 1).take n = id at hconv
      have HIDE := Lib.hid hid
      clear hid HID
      go_wp2_with fail
      by_cases h3 : 2 ≤ m - 1 - n
      · refine (number_yes_ 2 HR2.out (by omega) (by omega) h3).mono ?_
        rintro e w3 ⟨rfl, hg3, hr3⟩
        have HE3 := Lib.hid (HE2.out.grown hg3)
        have HR3 := Lib.hid hr3
        clear hg3 hr3 HE2 hconv
        have HLL := Lib.hid (show be (((bs.drop 1).drop n).take 2) < 65536 from by
          have := be_lt (((bs.drop 1).drop n).take 2)
          rw [List.length_take_of_le (by have := HR2.out.len; omega)] at this
          omega)
        generalize hl : be (((bs.drop 1).drop n).take 2) = l at *
        have HLE := Lib.hid hl
        have hl16 := HLL.out
        clear hl
        have hcut := fun (W : World) => run_cutAll (P := Try.prog) 23 5 32 arrTy byteTy.hi w.heap.size 0 (by decide) W
        by_cases h4 : 32 ≤ m - 1 - n - 2
        · go_wp2_with fail
          go_region_held3 (fun _ => True) (trivial)
            (first
              | (go_at_call 85
                 refine (take_yes_ 32 HR3.out.drew h4).mono ?_
                 rintro e w4 ⟨rfl, hg4, hr4⟩
                 have HE4 := Lib.hid (HE3.out.drew.grown hg4)
                 have HR4 := Lib.hid hr4)
              | (refine step_copy_bytes (by rfl) (.tmp 17) (.tmp 19) _ (by rfl) _ byteTy w.heap.size 0 32 32 _ (List.replicate 32 0) (by rfl) HE4.out.blk _ 32 _ ((((bs.drop 1).drop n).drop 2).take 32) (by rfl) ((HR3.out.bat.take 32).below HR4.out.below)
                   (by rw [List.length_take_of_le (by rw [HR3.out.len]; exact h4)]) 32 (by rfl) (by simp) (fun e => absurd e (HR3.out.some_ (by omega))) ?_
                 intro w5 hb5 hg5 hz5))
          rw [copied_root _ (by have := HR3.out.len; omega)] at hb5
          have hs32 : (cellsOf ((((bs.drop 1).drop n).drop 2).take 32)).size = 32 := by
            have h1 := HR3.out.len
            simp only [cellsOf, List.size_toArray, List.length_map]
            exact List.length_take_of_le (by omega)
          have HE5 := Lib.hid (HE4.out.copied hg5 hb5 hs32)
          clear hs32
          have HR5 := Lib.hid (HR4.out.grown hg5 (fun k hk => by injection hk with hk; omega))
          clear hg4 hr4 hb5 hg5 hz5 HE4 HR4 HE3 hcut
          have HD := Lib.hid (show (((bs.drop 1).drop n).drop 2).take 32 = (bs.drop (3 + n)).take 32 by rw [List.drop_drop, List.drop_drop, show 1 + (n + 2) = 3 + n by omega])
          rw [HD.out] at HE5
          have hrd := HR5.out.blk.cell 0
          simp only [List.getElem?_toArray, List.getElem?_cons_zero] at hrd
          have hrm := readM_eq bs id m n l HM.out HNN.out HIDE.out HLE.out
          by_cases h5 : m - 1 - n - 2 - 32 = 0
          · rw [h5] at hrd
            have h35 : m = 1 + n + 34 := by omega
            have hidl : id.length ≤ 140737488355328 := by
              rw [← HIDE.out]
              have := List.length_take_le n (bs.drop 1)
              have := (bs.getD 0 0).toNat_lt
              have := HNN.out
              omega
            cases hna : nameM id <;> cases hwi : within (l : Int) 512
            case true.true =>
              have hl5 : l ≤ 512 := by
                unfold within at hwi
                simp at hwi
                omega
              rw [if_pos ⟨h1, h35, hna, hl5⟩] at hrm
              have HRM := Lib.hid hrm
              have hld := load_hash HE5.out.drew.blk HE5.out.size
              have HNA := Lib.hid hna
              have HWI := Lib.hid hwi
              clear hrm hna hwi h35 h5
              go_wp2_with fail
              refine (name_any id hidl _).mono ?_
              rintro e w' ⟨rfl, rfl⟩
              rw [HNA.out]
              go_wp2_with fail
              refine (within_any _ _ _).mono ?_
              rintro e w' ⟨rfl, rfl⟩
              rw [HWI.out]
              go_wp2_with fail
              refine (sure_yes _).mono ?_
              rintro e w' ⟨rfl, rfl⟩
              go_wp2_with fail
              have hu := Try.underlying23
              have h1c := cells_one ((bs.drop (3 + n)).take 32)
              have hlen : (((bs.drop (3 + n)).take 32).map B8).length = 32 := by have := HE5.out.size; simpa [cellsOf] using this
              have hE6 : Es w w' (((bs.drop (3 + n)).take 32).map B8).toArray := HE5.out
              have HCS := Lib.hid (show cellsOf ((bs.drop (3 + n)).take 32) = (((bs.drop (3 + n)).take 32).map B8).toArray from rfl)
              generalize ((bs.drop (3 + n)).take 32).map B8 = cs at *
              have hi : (Try.prog.info? 23).map (·.size) = some cs.length := by rw [hash_size, hlen]
              have HE6 := Lib.hid hE6
              have E1 := Lib.hid hE6.drew.sets
              have E2 := Lib.hid hE6.drew.set0
              clear hld hE6 HE5
              go_region_held3 (fun w'' => w''.rangeAt w.heap.size 0 cs ∧ w''.there w.heap.size 0 32 ∧ w''.cell? ⟨w.heap.size + 1, 0, none⟩ = some (.int .i64 0) ∧ w''.frozen? ⟨w.heap.size + 1, 0, none⟩ = false)
                (first
                  | exact HE6.out.drew.ranges
                  | (rw [E1.out]; exact HE6.out.drew.ranges)
                  | (rw [E2.out]; exact HE6.out.drew.ranges)
                  | (rw [E1.out, E2.out]; exact HE6.out.drew.ranges)
                  | (rw [E2.out, E1.out]; exact HE6.out.drew.ranges)) (fail)
              rw [E1.out, E2.out]
              go_wp2
              rw [HRM.out]
              refine entry_ok ?_ rfl rfl rfl rfl
              rw [HCS.out]
              exact HE6.out.drew
            all_goals
              have hf : ¬ (1 ≤ m ∧ m = 1 + n + 34 ∧ nameM id = true ∧ l ≤ 512) := by
                rw [hna]
                unfold within at hwi
                simp at hwi ⊢
                try omega
              rw [if_neg hf] at hrm
              have HRM := Lib.hid hrm
              have HNA := Lib.hid hna
              have HWI := Lib.hid hwi
              clear hrm hna hwi h35 h5 hf
              go_wp2_with fail
              refine (name_any id hidl _).mono ?_
              rintro e w' ⟨rfl, rfl⟩
              rw [HNA.out]
              go_wp2_with (first
                | (go_at_call 59
                   refine (within_any _ _ _).mono ?_
                   rintro e w' ⟨rfl, rfl⟩
                   rw [HWI.out])
                | (go_at_call 87
                   refine (sure_no _).mono ?_
                   rintro e w' ⟨rfl, rfl⟩))
              rw [HRM.out]
              exact entry_fails HE5.out rfl rfl rfl rfl
          · rw [if_neg (by omega)] at hrm
            have HRM := Lib.hid hrm
            have hz : ((((m - 1 - n - 2 - 32 : Nat)) : Int) == 0) = false := by simp; omega
            clear hrm
            go_wp2_with (first
              | (go_at_call 87
                 refine (sure_no _).mono ?_
                 rintro e w' ⟨rfl, rfl⟩))
            rw [HRM.out]
            exact entry_fails HE5.out rfl rfl rfl rfl
        · have HR : Hid (readM bs = none) := Lib.hid (by unfold readM; rw [if_neg]; have := HM.out; rw [HNN.out]; omega)
          go_wp2_with fail
          refine wp_region_any (by kernel_rfl) ?_
          change wpAny _ _ _ _ _ _ _ (World.drew _)
          refine wpAny_ready (rs := [0, 1]) (by kernel_rfl) (by simp) ?_
          refine AllReady.cons rfl (fun K hK => ?_) ?_
          · go_simp
            refine hK _ _ ?_
            clear hK K
            refine wpAny_ready (rs := [1]) (by kernel_rfl) (by simp) ?_
            refine AllReady.cons rfl (fun K hK => ?_) ?_
            · go_simp
              refine hK _ _ ?_
              clear hK K
              refine wpAny_ready (rs := [2]) (by kernel_rfl) (by simp) ?_
              refine AllReady.cons rfl (fun K hK => ?_) ?_
              · go_simp
                refine (take_bad _ _ _ _ 32 _ HR3.out.drew.blk (by omega)).mono ?_
                (rintro e w4 ⟨rfl, rfl⟩; rw [HR.out]; exact entry_fails HE3.out.drew rfl rfl rfl rfl)
              exact AllReady.nil
            exact AllReady.nil
          refine AllReady.cons rfl (fun K hK => ?_) ?_
          · go_simp
            refine hK _ _ ?_
            clear hK K
            refine wpAny_ready (rs := [0, 2]) (by kernel_rfl) (by simp) ?_
            refine AllReady.cons rfl (fun K hK => ?_) ?_
            · go_simp
              refine hK _ _ ?_
              clear hK K
              refine wpAny_ready (rs := [2]) (by kernel_rfl) (by simp) ?_
              refine AllReady.cons rfl (fun K hK => ?_) ?_
              · go_simp
                refine (take_bad _ _ _ _ 32 _ HR3.out.drew.blk (by omega)).mono ?_
                (rintro e w4 ⟨rfl, rfl⟩; rw [HR.out]; exact entry_fails HE3.out.drew rfl rfl rfl rfl)
              exact AllReady.nil
            refine AllReady.cons rfl (fun K hK => ?_) ?_
            · go_simp
              refine (take_bad _ _ _ _ 32 _ HR3.out.drew.blk (by omega)).mono ?_
              (rintro e w4 ⟨rfl, rfl⟩; rw [HR.out]; exact entry_fails HE3.out.drew rfl rfl rfl rfl)
            exact AllReady.nil
          exact AllReady.nil
      · have HR : Hid (readM bs = none) := Lib.hid (by unfold readM; rw [if_neg]; have := HM.out; rw [HNN.out]; omega)
        refine (number_no_ 2 HR2.out (by omega)).mono ?_
        rintro e w3 ⟨rfl, rfl⟩
        rw [HR.out]
        exact entry_fails HE2.out rfl rfl rfl rfl
    · have HR : Hid (readM bs = none) := Lib.hid (by unfold readM; rw [if_neg]; have := HM.out; rw [HNN.out]; omega)
      go_wp2_with fail
      refine (take_bad _ _ _ _ _ _ HR1.out.blk (by omega)).mono ?_
      rintro e w2 ⟨rfl, rfl⟩
      rw [HR.out]
      exact entry_fails HE1.out rfl rfl rfl rfl
  · have HR : Hid (readM bs = none) := Lib.hid (by unfold readM; rw [if_neg]; have := HM.out; omega)
    go_enter_defers Try.func62, Try.ntmps62
    go_wp2_with fail
    refine (number_no_ 1 HRD.out (by omega)).mono ?_
    rintro e w1 ⟨rfl, rfl⟩
    rw [HR.out]
    exact entry_fails HE.out rfl rfl rfl rfl
theorem blk_ranges {wr : World} {g : Nat} {t : TypeId} {cs : List Value} {n : Nat} (h : Blk wr g t cs.toArray) (hn : cs.length = n) : wr.rangeAt g 0 cs ∧ wr.there g 0 n :=
  ⟨by simpa using blk_range h, fun j hj => ⟨by rw [Nat.zero_add, h.cell]; simp; omega, h.frozen _⟩⟩
theorem blk_self32 {wr : World} {g : Nat} {t : TypeId} {cs : List Value} (h : Blk wr g t cs.toArray) : wr.setCells g 0 cs = wr := blk_sets_self h cs 0 fun j v hv => by rw [Nat.zero_add]; simpa using hv
/-- What 'Read' gives back. -/
def RetRd (w : World) (r : Option (List UInt8 × Nat × List UInt8)) (e : Ending) (w' : World) : Prop :=
  Below w.heap.size w w' ∧ ((r = none ∧ e = .returned (.tuple #[.string (S8 []), .int .i64 0, .agg (cellsOf (List.replicate 32 0)), .int .i64 110])) ∨
    ∃ id l root, r = some (id, l, root) ∧ root.length = 32 ∧ e = .returned (.tuple #[.string (S8 id), .int .i64 (l : Nat), .agg (cellsOf root), .int .i64 0]))
set_option maxRecDepth 100000 in
set_option maxHeartbeats 1000000 in
theorem read_any (A : Option Addr) (bs : List UInt8) (m cap : Nat) (w : World) (hb : BAt w A bs) (hm : bs.length = m) (hc : m ≤ cap) (hcap : m ≤ 140737488355328) :
    Calls Try.prog 23 #[.slice A m cap] w (RetRd w (readM bs)) := by
  have HB := Lib.hid hb
  have HM := Lib.hid hm
  have HG := Lib.hid (Blk.new w 23 (cellsOf (List.replicate 32 0)))
  clear hb hm
  go_enter Try.func23, Try.ntmps23
  go_wp2_with fail
  refine (entryR_any A bs m cap _ (HB.out.below (below_al' _)) HM.out hc hcap).mono ?_
  rintro e w1 ⟨hb1, ⟨hr, s, l, rb, h32, rfl⟩ | ⟨id, l, rb, hr, h32, rfl⟩⟩
  · have HR := Lib.hid hr
    have HB1 := Lib.hid hb1
    have HG1 := Lib.hid (HG.out.below_ hb1)
    have H32 := Lib.hid h32
    clear hr hb1 h32
    go_wp2_with (first
      | (refine wpList_store_whole rfl 23 (.tmp 4) (.tmp 11) rfl w.heap.size 23 _ (rb.map B8) rfl rfl HG1.out (by simp [H32.out]) (by rw [hash_size]; simp [H32.out]) (cells_one _) ?_
         intro w2 hb2 hg2 hz2
         have HG2 := Lib.hid hb2
         have HB2 := Lib.hid ((below_al HB1.out).grown hg2 (by have := (below_al HB1.out).size; omega) (fun k hk => by injection hk with hk; omega))
         clear hb2 hg2 hz2)
      | (refine wpList_store_whole rfl 23 (.tmp 4) (.tmp 15) rfl w.heap.size 23 _ ((List.replicate 32 (0 : UInt8)).map B8) rfl rfl HG2.out (by simp [H32.out]) (by rw [hash_size]; simp) (cells_one _) ?_
         intro w3 hb3 hg3 hz3
         have HG3 := Lib.hid hb3
         have HB3 := Lib.hid ((HB2.out).grown hg3 HB2.out.size (fun k hk => by injection hk with hk; omega))
         clear hb3 hg3 hz3))
    have hl : (loadVar 23 ⟨w.heap.size, 0, none⟩).run Try.prog w3 = .ok (.agg (cellsOf (List.replicate 32 0))) w3 := load_hash HG3.out (by simp [cellsOf])
    refine bodyPost_ret (v := .tuple #[.string (S8 []), .int .i64 0, .agg (cellsOf (List.replicate 32 0)), .int .i64 110]) ?_ rfl ⟨HB3.out, .inl ⟨HR.out, rfl⟩⟩
    simp [results, Try.results23, asAddr, hl, Sem.run_bind, S8]
  · have HR := Lib.hid hr
    have HB1 := Lib.hid hb1
    have HG1 := Lib.hid (HG.out.below_ hb1)
    have H32 := Lib.hid h32
    clear hr hb1 h32
    go_wp2_with (first
      | (refine wpList_store_whole rfl 23 (.tmp 4) (.tmp 11) rfl w.heap.size 23 _ (rb.map B8) rfl rfl HG1.out (by simp [H32.out]) (by rw [hash_size]; simp [H32.out]) (cells_one _) ?_
         intro w2 hb2 hg2 hz2
         have HG2 := Lib.hid hb2
         have HB2 := Lib.hid ((below_al HB1.out).grown hg2 (by have := (below_al HB1.out).size; omega) (fun k hk => by injection hk with hk; omega))
         clear hb2 hg2 hz2))
    have hu := Try.underlying23
    have h1c := cells_one rb
    have hlen : (rb.map B8).length = 32 := by simp [H32.out]
    have HCS := Lib.hid (show cellsOf rb = (rb.map B8).toArray from rfl)
    have hg2 := HG2.out
    generalize hcs : rb.map B8 = cs at *
    clear hcs
    have hi : (Try.prog.info? 23).map (·.size) = some cs.length := by rw [hash_size, hlen]
    have E1 := Lib.hid (blk_self32 hg2.drew)
    have HG3 := Lib.hid hg2
    clear hg2
    go_region_held3 (fun w'' => w''.rangeAt w.heap.size 0 cs ∧ w''.there w.heap.size 0 32)
      (first
        | exact blk_ranges HG3.out.drew hlen
        | (rw [E1.out]; exact blk_ranges HG3.out.drew hlen)) (fail)
    rw [E1.out]
    have hl := load_hash HG3.out.drew (by simp [hlen])
    rw [← HCS.out] at hl
    clear hu hi h1c
    go_wp2
    refine bodyPost_ret (v := .tuple #[.string (S8 id), .int .i64 l, .agg (cellsOf rb), .int .i64 0]) ?_ rfl ⟨below_drewN HB2.out 1, .inr ⟨_, _, _, HR.out, H32.out, rfl⟩⟩
    simp [results, Try.results23, asAddr, hl, Sem.run_bind]
end Go.Proofs.Ytomncfiklkhfjaa.Rec
