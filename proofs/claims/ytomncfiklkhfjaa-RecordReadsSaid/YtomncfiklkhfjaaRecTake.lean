/- The walks of what reads from the front of bytes: 'take', 'number', 'sure', and what catches a throw. -/
import Derived.Test.YtomncfiklkhfjaaRecEnc
import Derived.Defers
import Derived.Recover
import Derived.Laws.Pointers
import Derived.WalkLawsBesides
namespace Go.Proofs.Ytomncfiklkhfjaa.Rec
open Go.RowKit Mem Crc _root_.Go.Proofs.Ytomncfiklkhfjaa.Frame
/-- What is thrown. -/
def thrown : List PanicEntry := [{ v := .iface 130 (.agg #[]), recovered := false }]
theorem sure_yes (w : World) : Calls Try.prog 87 #[.bool true] w fun e w' => e = .returned (.tuple #[]) ∧ w' = w := by
  go_enter Try.func87, Try.ntmps87
  go_wp2
  go_end0
  exact ⟨rfl, rfl⟩
theorem sure_no (w : World) : Calls Try.prog 87 #[.bool false] w fun e w' => e = .panicked thrown ∧ w' = w := by
  go_enter Try.func87, Try.ntmps87
  go_wp2
  exact ⟨rfl, rfl, rfl⟩
theorem take_ok (g : Nat) (A : Option Addr) (m cap n : Nat) (w : World) (hg : Blk w g 122 #[.slice A m cap]) (hn : n ≤ m) (hm : m ≤ cap) (hc : m ≤ 140737488355328) :
    Calls Try.prog 85 #[.pointer (some ⟨g, 0, none⟩), .int .i64 n] w fun e w' => e = .returned (.slice A n cap) ∧ w' = w.setCell ⟨g, 0, none⟩ (.slice (cutA A cap n) (m - n) (cap - n)) := by
  have hcell := hg.cell 0
  have hfz := hg.frozen 0
  simp at hcell
  have hlt : ¬ (m : Int) < (n : Int) := by omega
  have hc1 := fun W => run_cut_h (P := Try.prog) 28 5 byteTy A m cap .i64 (n : Int) n rfl (by omega) W
  have hc2 := fun W => run_cut_l (P := Try.prog) 28 5 byteTy A m cap .i64 (n : Int) n rfl hn W
  go_enter Try.func85, Try.ntmps85
  go_wp2
  go_ret
  exact ⟨rfl, rfl⟩
theorem take_bad (g : Nat) (A : Option Addr) (m cap n : Nat) (w : World) (hg : Blk w g 122 #[.slice A m cap]) (hn : m < n) :
    Calls Try.prog 85 #[.pointer (some ⟨g, 0, none⟩), .int .i64 n] w fun e w' => e = .panicked thrown ∧ w' = w := by
  have hcell := hg.cell 0
  simp at hcell
  have hlt : (m : Int) < (n : Int) := by omega
  go_enter Try.func85, Try.ntmps85
  go_wp2
  exact ⟨rfl, rfl, rfl⟩
set_option maxRecDepth 100000 in
theorem caught_panicking (g : Nat) (x : Int) (w : World) (hg : Blk w g 29 #[.int .i64 x]) :
    CallsD Try.prog 84 #[.pointer (some ⟨g, 0, none⟩)] (.panicking thrown) w fun e u' w' =>
      e = .returned (.tuple #[]) ∧ u' = .panicking [{ v := .iface 130 (.agg #[]), recovered := true }] ∧ w' = (w.alloc (.cells #[] 130)).setCell ⟨g, 0, none⟩ (.int .i64 110) := by
  have hc := (hg.alloc (.cells #[] 130)).cell 0
  have hz := (hg.alloc (.cells #[] 130)).frozen 0
  simp only [List.getElem?_toArray, List.getElem?_cons_zero] at hc
  clear hg
  refine callsD_of_wpS Try.func84 rfl fun c₀ cs hu => ?_
  apply wpS_seq
  apply wpS_region
  simp [wpOpsS, go_sem, recoverD, hu, Try.ntmps84, Exit.thenS, thrown]
  refine wpS_of_wp ?_
  have hta : ∀ w, (Instr.typeAssert (Value.iface 130 (Value.agg #[])) 20 130 true).run Try.prog w = .ok (.tuple #[.agg #[], .bool true]) w := fun _ => by kernel_rfl
  go_wp2
  simp_all [bodyPostS, results, Try.results84]
theorem caught_idle (p : Addr) (w : World) :
    CallsD Try.prog 84 #[.pointer (some p)] .returning w fun e u' w' => e = .returned (.tuple #[]) ∧ u' = .returning ∧ w' = w := by
  refine callsD_of_wpS Try.func84 rfl fun c₀ cs hu => ?_
  apply wpS_seq
  apply wpS_region
  simp [wpOpsS, go_sem, recoverD, hu, Try.ntmps84, Exit.thenS]
  refine wpS_of_wp ?_
  go_wp2
  cases c₀
  simp_all [bodyPostS, results, Try.results84]
theorem blk_set_self {w : World} {g : Nat} {t : TypeId} {cs : Array Value} (h : Blk w g t cs) (i : Nat) (v : Value) (hv : cs[i]? = some v) : w.setCell ⟨g, i, none⟩ v = w := by
  have hs : cs.setIfInBounds i v = cs := by
    apply Array.ext (by simp)
    intro j h1 h2
    rw [Array.getElem_setIfInBounds]
    split
    · rename_i e
      subst e
      exact (Option.some.inj ((Array.getElem?_eq_getElem h2).symm.trans hv)).symm
    · rfl
  unfold World.setCell
  have : ∀ f, (∀ o, w.heap[g]? = some o → f o = o) → w.heap.modify g f = w.heap := by
    intro f hf
    apply Array.ext (by simp)
    intro j h1 h2
    rw [Array.getElem_modify]
    split
    · rename_i e
      subst e
      exact hf _ (Array.getElem?_eq_getElem h2)
    · rfl
  rw [this]
  intro o ho
  unfold Blk at h
  rw [h] at ho
  injection ho with ho
  subst ho
  simp [hs]
theorem blk_sets_self {w : World} {g : Nat} {t : TypeId} {cs : Array Value} (h : Blk w g t cs) : ∀ (vs : List Value) (o : Nat), (∀ j v, vs[j]? = some v → cs[o + j]? = some v) → w.setCells g o vs = w
  | [], _, _ => rfl
  | v :: r, o, hv => by
    rw [World.setCells, blk_set_self h o v (by simpa using hv 0 v rfl)]
    exact blk_sets_self h r (o + 1) fun j u hu => by
      have := hv (j + 1) u (by simpa using hu)
      rw [show o + 1 + j = o + (j + 1) by omega]
      exact this
theorem blk_sets {g : Nat} {t : TypeId} : ∀ (vs cs : List Value) (o : Nat) (w : World), Blk w g t cs.toArray → o + vs.length ≤ cs.length →
    Blk (w.setCells g o vs) g t (cs.take o ++ vs ++ cs.drop (o + vs.length)).toArray ∧ w.grownBy (w.setCells g o vs) (some g) ∧ (w.setCells g o vs).heap.size = w.heap.size
  | [], cs, o, w, h, hle => ⟨by simpa [World.setCells] using h, World.grownBy.refl w _, rfl⟩
  | v :: r, cs, o, w, h, hle => by
    simp only [List.length_cons] at hle
    have h1 : Blk (w.setCell ⟨g, o, none⟩ v) g t (cs.set o v).toArray := by
      have := h.set_ o v
      simpa using this
    obtain ⟨k1, k2, k3⟩ := blk_sets r (cs.set o v) (o + 1) (w.setCell ⟨g, o, none⟩ v) h1 (by simp; omega)
    refine ⟨?_, ?_, ?_⟩
    · rw [World.setCells]
      have e : (cs.set o v).take (o + 1) ++ r ++ (cs.set o v).drop (o + 1 + r.length) = cs.take o ++ v :: r ++ cs.drop (o + (v :: r).length) := by
        have e1 : (cs.set o v).take (o + 1) = cs.take o ++ [v] := by
          rw [List.take_succ_eq_append_getElem (by simp; omega), List.take_set_of_le (Nat.le_refl _)]
          simp
        have e2 : (cs.set o v).drop (o + 1 + r.length) = cs.drop (o + (v :: r).length) := by
          rw [List.drop_set_of_lt (by omega)]
          congr 1
          simp
          omega
        rw [e1, e2]
        simp
      rw [← e]
      exact k1
    · rw [World.setCells]
      exact grown_trans (grownBy_setCell w ⟨g, o, none⟩ v (some g) rfl) k2
    · rw [World.setCells, k3]
      simp [World.setCell]
/-- A store of all cells of a block. -/
theorem wpList_store_whole {P : Program} {w : World} {ops : Array Oper} {rest : List Oper} {op : Oper} {a : Act} {Q : Exit → Act → World → Prop} (hgd : op.guard = none) (ty : TypeId) (x y : Operand) (ho : op.op = .store ty x y)
    (g : Nat) (te : TypeId) (old new : List Value) (hx : a.eval x = .pointer (some ⟨g, 0, none⟩)) (hy : a.eval y = .agg new.toArray) (hb : Blk w g te old.toArray) (hlen : new.length = old.length)
    (hi : (P.info? ty).map (·.size) = some new.length) (h1 : ∀ v ∈ new, v.oneCell' = true)
    (h : ∀ w', Blk w' g te new.toArray → w.grownBy w' (some g) → w'.heap.size = w.heap.size → wpList P ops Q rest (a.put op.dst undef) w') : wpList P ops Q (op :: rest) a w := by
  refine wpList_store_mid hgd ty x y ho g 0 new.toArray hx hy (fun j hj => ⟨by rw [Nat.zero_add, hb.cell]; simp at hj ⊢; omega, hb.frozen _⟩) (by simpa using hi) (all_oneCell_toArray h1) ?_
  obtain ⟨k1, k2, k3⟩ := blk_sets new old 0 w hb (by omega)
  refine h _ ?_ k2 k3
  have e : old.take 0 ++ new ++ old.drop (0 + new.length) = new := by rw [Nat.zero_add, List.drop_eq_nil_of_le (by omega)]; simp
  rw [e] at k1
  exact k1
/-- The walk goes on at a world that is spelled otherwise. -/
theorem wp_world {P : Program} {c : Code} {Q : Exit → Act → World → Prop} {a : Act} {w1 : World} (w2 : World) (e : w1 = w2) (h : c.wp P Q a w2) : c.wp P Q a w1 := e ▸ h
/-- A reader in its own block, made behind w0; what is left to be read lay there at w0. -/
structure Rd (w0 w : World) (g : Nat) (A : Option Addr) (m cap : Nat) (bs : List UInt8) : Prop where
  bat : BAt w0 A bs
  len : bs.length = m
  mcap : m ≤ cap
  hcap : m ≤ 140737488355328
  below : Below w0.heap.size w0 w
  hg : w0.heap.size ≤ g
  blk : Blk w g 122 #[.slice A m cap]
theorem Rd.grown {w0 w w2 : World} {g : Nat} {A : Option Addr} {m cap : Nat} {bs : List UInt8} {row : Option Nat} (h : Rd w0 w g A m cap bs) (hg : w.grownBy w2 row) (hr : ∀ k, row = some k → w0.heap.size ≤ k ∧ k ≠ g) : Rd w0 w2 g A m cap bs :=
  ⟨h.bat, h.len, h.mcap, h.hcap, h.below.grown hg h.below.size (fun k hk => (hr k hk).1), h.hg, h.blk.grown hg (by intro e; exact (hr g e.symm).2 rfl)⟩
theorem Rd.to {w0 w w2 : World} {g : Nat} {A : Option Addr} {m cap : Nat} {bs : List UInt8} (h : Rd w0 w g A m cap bs) (hb : Below w.heap.size w w2) : Rd w0 w2 g A m cap bs :=
  h.grown (grown_of_below hb none) (fun k hk => by cases hk)
theorem Rd.drew {w0 w : World} {g : Nat} {A : Option Addr} {m cap : Nat} {bs : List UInt8} (h : Rd w0 w g A m cap bs) : Rd w0 w.drew g A m cap bs := ⟨h.bat, h.len, h.mcap, h.hcap, below_drewN h.below 1, h.hg, h.blk.drew⟩
theorem Rd.some_ {w0 w : World} {g : Nat} {A : Option Addr} {m cap : Nat} {bs : List UInt8} (h : Rd w0 w g A m cap bs) (h0 : 0 < m) : A ≠ none := by
  rintro rfl
  obtain ⟨ad, e, _⟩ := h.bat (by rw [h.len]; exact h0)
  cases e
theorem Rd.far {w0 w : World} {g : Nat} {A : Option Addr} {m cap : Nat} {bs : List UInt8} (h : Rd w0 w g A m cap bs) {p : Addr} (hp : w0.heap.size ≤ p.block) (hne : p.block ≠ g) (v : Value) : Rd w0 (w.setCell p v) g A m cap bs :=
  h.grown (grownBy_setCell w p v (some p.block) rfl) (fun k hk => by injection hk with hk; subst hk; exact ⟨hp, hne⟩)
theorem Rd.step {w0 w : World} {g : Nat} {A : Option Addr} {m cap n : Nat} {bs : List UInt8} (h : Rd w0 w g A m cap bs) (hn : n ≤ m) :
    Rd w0 (w.setCell ⟨g, 0, none⟩ (.slice (cutA A cap n) (m - n) (cap - n))) g (cutA A cap n) (m - n) (cap - n) (bs.drop n) := by
  refine ⟨h.bat.cut cap n (by rw [h.len]; exact h.mcap), by simp [h.len], by have := h.mcap; omega, by have := h.hcap; omega, ?_, h.hg, ?_⟩
  · exact h.below.grown (grownBy_setCell w ⟨g, 0, none⟩ _ (some g) rfl) h.below.size (fun k hk => by injection hk with hk; subst hk; exact h.hg)
  · exact h.blk.set_ 0 _
theorem take_yes_ {w0 w : World} {g : Nat} {A : Option Addr} {m cap : Nat} {bs : List UInt8} (n : Nat) (h : Rd w0 w g A m cap bs) (hn : n ≤ m) :
    Calls Try.prog 85 #[.pointer (some ⟨g, 0, none⟩), .int .i64 n] w fun e w' => e = .returned (.slice A n cap) ∧ w.grownBy w' (some g) ∧ Rd w0 w' g (cutA A cap n) (m - n) (cap - n) (bs.drop n) :=
  (take_ok g A m cap n w h.blk hn h.mcap h.hcap).mono fun _ _ ⟨he, hw⟩ => ⟨he, by subst hw; exact grownBy_setCell w _ _ (some g) rfl, by subst hw; exact h.step hn⟩
set_option maxHeartbeats 400000 in
theorem number_yes_ {w0 w : World} {g : Nat} {A : Option Addr} {m cap : Nat} {bs : List UInt8} (size : Nat) (h : Rd w0 w g A m cap bs) (h1 : 1 ≤ size) (h6 : size ≤ 6) (hn : size ≤ m) :
    Calls Try.prog 86 #[.pointer (some ⟨g, 0, none⟩), .int .i64 size] w fun e w' => e = .returned (.int .i64 (be (bs.take size) : Nat)) ∧ w.grownBy w' (some g) ∧ Rd w0 w' g (cutA A cap size) (m - size) (cap - size) (bs.drop size) := by
  have HR := Lib.hid h
  have HL := Lib.hid h.len
  have hlt1 := be_lt (bs.take size)
  rw [List.length_take_of_le (by rw [h.len]; exact hn)] at hlt1
  have h7 : 256 ^ size ≤ 256 ^ 6 := Nat.pow_le_pow_right (by decide) h6
  have hB : be (bs.take size) < 281474976710656 := by omega
  clear h hlt1 h7
  go_enter Try.func86, Try.ntmps86
  go_wp2_with fail
  refine (take_yes_ size HR.out hn).mono ?_
  rintro e w1 ⟨rfl, hg1, hr1⟩
  have HG1 := Lib.hid hg1
  have HR1 := Lib.hid hr1
  clear hg1 hr1
  go_wp2_with fail
  refine (take_any A (bs.take size) size cap size w1 (by rw [List.length_take_of_le (by rw [HL.out]; exact hn)]) (by have := HR.out.mcap; omega) (by have := HR.out.hcap; have := HR.out.mcap; omega) ((HR.out.bat.take size).below HR1.out.below)).mono ?_
  rw [show takeM (bs.take size) (size : Int) = (be (bs.take size), [], 0) by
    unfold takeM okSize
    rw [if_pos (by simp; omega), if_neg (by rw [List.length_take_of_le (by rw [HL.out]; exact hn)]; omega)]
    simp [List.take_take]]
  rintro e w2 ⟨A2, N2, c2, rfl, ho2, hb2⟩
  have HB2 := Lib.hid hb2
  clear ho2 hb2
  generalize hbe : be (bs.take size) = v at *
  have HBE := Lib.hid hbe
  clear hbe
  go_wp2
  go_ret
  exact ⟨by rw [HBE.out]; rfl, grown_below HG1.out HB2.out HG1.out.size, HR1.out.to HB2.out⟩
set_option maxHeartbeats 400000 in
theorem number_no_ {w0 w : World} {g : Nat} {A : Option Addr} {m cap : Nat} {bs : List UInt8} (size : Nat) (h : Rd w0 w g A m cap bs) (hn : m < size) :
    Calls Try.prog 86 #[.pointer (some ⟨g, 0, none⟩), .int .i64 size] w fun e w' => e = .panicked thrown ∧ w' = w := by
  have HR := Lib.hid h
  clear h
  go_enter Try.func86, Try.ntmps86
  go_wp2_with fail
  refine (take_bad g A m cap size w HR.out.blk hn).mono ?_
  rintro e w1 ⟨rfl, rfl⟩
  go_wp2
  exact ⟨rfl, rfl, rfl⟩
end Go.Proofs.Ytomncfiklkhfjaa.Rec
