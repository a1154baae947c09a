/- A stand of which a byte turned: what is read of each object. -/
import Derived.Test.YtgcckfaljfkkhaaDoorHotRotsP
import Derived.Test.YtgcckfaljfkkhaaDoorPlRot
import Derived.Test.YtgcckfaljfkkhaaDoorFold0
import Derived.ProofKit
import Derived.OpenShut
import Derived.WideKeyArgs
import Derived.Deep.DeepHandedRow
import Derived.Deep.Slices
import Derived.Test.YtgcckfaljfkkhaaDoorHotApp
import Derived.Test.YtgcckfaljfkkhaaDoorCards
import Derived.Test.YtgcckfaljfkkhaaDoorTie
import Derived.Lib.LaidTab
import Derived.Test.YtgcckfaljfkkhaaDoorHotOps
namespace Go.Proofs.YtgcckfaljfkkhaaDoor.Hot
open Go Go.RowKit Mem Pl Disk Crc _root_.Go.Proofs.YtgcckfaljfkkhaaDoor.Frame
theorem rot_low (p : PM) (i k at_ : Int) (x : UInt8) : (p.rot i k at_ x).1.steps = p.steps ∧ (p.rot i k at_ x).1.waits = p.waits := by
  unfold PM.rot
  cases p.num i with
  | none => exact ⟨rfl, rfl⟩
  | some j =>
    dsimp only
    cases p.devs[j]? with
    | none => exact ⟨rfl, rfl⟩
    | some d => dsimp only; split <;> exact ⟨rfl, rfl⟩
theorem rot_ok {p : PM} (h : p.Ok) (i k at_ : Int) (x : UInt8) : (p.rot i k at_ x).1.Ok := by
  unfold PM.rot
  cases hn : p.num i with
  | none => exact h
  | some j =>
    dsimp only
    cases hd : p.devs[j]? with
    | none => exact h
    | some d =>
      dsimp only
      split
      · rename_i hc
        have hj : j < p.devs.length := (List.getElem?_eq_some_iff.1 hd).1
        have back : ∀ (q : Nat) (e : Dev), (p.devs.set j { d with has := d.has.set k.toNat ((d.at_ k.toNat).set at_.toNat (((d.at_ k.toNat).getD at_.toNat 0) ^^^ x)) })[q]? = some e → (q = j ∧ e = { d with has := d.has.set k.toNat ((d.at_ k.toNat).set at_.toNat (((d.at_ k.toNat).getD at_.toNat 0) ^^^ x)) }) ∨ (q ≠ j ∧ p.devs[q]? = some e) := fun q e he => by
          by_cases hq : q = j
          · subst hq
            rw [List.getElem?_set_self hj] at he
            injection he with he
            exact .inl ⟨rfl, he.symm⟩
          · rw [List.getElem?_set_ne (fun e => hq e.symm)] at he
            exact .inr ⟨hq, he⟩
        have hl : ∀ z : Dev, (p.devs.set j z).length = p.devs.length := fun _ => List.length_set
        constructor
        · show 1 ≤ (p.devs.set _ _).length; rw [hl]; exact h.n1
        · show (p.devs.set _ _).length ≤ 12; rw [hl]; exact h.n12
        · show (p.devs.set _ _).length = _; rw [hl]; exact h.shape
        · intro q e he
          rcases back q e he with ⟨rfl, rfl⟩ | ⟨_, he⟩
          · exact h.tape _ d hd
          · exact h.tape q e he
        · intro q e he
          rcases back q e he with ⟨rfl, rfl⟩ | ⟨_, he⟩
          · exact h.most _ d hd
          · exact h.most q e he
        · intro q e he ht
          rcases back q e he with ⟨rfl, rfl⟩ | ⟨_, he⟩
          · show (d.has.set _ _).length = _
            rw [List.length_set]; exact h.disk _ d hd ht
          · exact h.disk q e he ht
        · intro q e he ht
          rcases back q e he with ⟨rfl, rfl⟩ | ⟨_, he⟩
          · show (d.has.set _ _).length + _ ≤ _
            rw [List.length_set]; exact h.room _ d hd ht
          · exact h.room q e he ht
        · intro q e b he hb
          rcases back q e he with ⟨rfl, rfl⟩ | ⟨_, he⟩
          · rcases List.mem_or_eq_of_mem_set hb with hb | hb
            · exact h.sec _ d b hd hb
            · rw [hb, List.length_set]; exact h.at_len hd _
          · exact h.sec q e b he hb
        · intro y hy; show _ < (p.devs.set _ _).length; rw [hl]; exact h.wdev y hy
        · exact h.wlen
        · intro y hy e he
          rcases back _ e he with ⟨hq, rfl⟩ | ⟨_, he⟩
          · exact h.wplace y hy d (hq ▸ hd)
          · exact h.wplace y hy e he
        · intro q e he ht
          rcases back q e he with ⟨rfl, rfl⟩ | ⟨_, he⟩
          · show _ = List.range' (d.has.set _ _).length _
            rw [List.length_set]; exact h.wtape _ d hd ht
          · exact h.wtape q e he ht
        · exact h.now
        · exact h.fuse
      · exact h
/-- The stand of which one byte turned. -/
structure Rotten (B : Nat) (w : World) (s h r : Nat) (n : Nat) (used : List Pc) (bytes : List (List UInt8)) (at_ turn : Nat) : Prop where
  ex : ∃ (a : Nat) (F H G : Nat → Prop) (pm : PM) (m : Nat) (Ks : List (List UInt8)) (segs : List Nat) (hsed : List Pc) (ever dims : Nat), StandM B w s a h r F H G pm m n Ks [] segs hsed used bytes ever dims ∧ hsed.Perm used ∧ pm.off = false ∧ m ≤ 1000 ∧
    ∀ (k : Nat) (u : Pc) (b : List UInt8), used[k]? = some u → bytes[k]? = some b → readM Ks u = some b ∨ (u.1 ≤ at_ ∧ at_ < u.1 + u.2) ∧ (readM Ks u = none ∨ (at_ = u.1 ∧ turn < 4) ∧ ∃ b', readM Ks u = some b' ∧ b'.length ≤ 512)
  few : used.length ≤ 1000
section
variable {B : Nat} {w w' : World} {s a h r : Nat} {F H G : Nat → Prop} {pm : PM} {m n : Nat} {Hs : List (List UInt8)} {segs : List Nat} {hsed used : List Pc} {bytes : List (List UInt8)} {ever dims at_ turn : Nat}
theorem Rotten.below (x : Rotten B w s h r n used bytes at_ turn) (hb : Below w.heap.size w w') : Rotten B w' s h r n used bytes at_ turn := by
  obtain ⟨⟨a, F, H, G, pm, m, Ks, segs, hsed, ever, dims, y, h1⟩, h2⟩ := x
  exact ⟨⟨a, F, H, G, pm, m, Ks, segs, hsed, ever, dims, y.below hb, h1⟩, h2⟩
/-- A byte turned. -/
theorem StandB.rot (x : StandB B w s a h r F H G pm m n Hs segs hsed used bytes ever dims) (hm : m ≤ 999) (hul : used.length ≤ 1000) (hat : at_ < n) (htu : turn < 64) (z : Int) :
    Calls Tryd.prog 25 #[.pointer (some ⟨a, 0, none⟩), .int .i64 1, .int .i64 (at_ : Int), .int .i64 (turn : Int), .int .i64 z] w fun e w' => ∃ v, e = .returned v ∧ Rotten B w' s h r n used bytes at_ turn ∧ Below B w w' := by
  refine (rot_any x.hot.st.at_ x.hot.st.ok 1 (at_ : Int) (turn : Int) z).mono ?_
  rintro e w' ⟨rfl, hp, hmo⟩
  have hlen := x.hot.disk.len x.hot.st.ok
  obtain ⟨K, hd, hoff, _, hK⟩ := x.hot.disk.rot hlen (at_ : Int) (turn : Int) (Pl.byteOf z)
  rw [if_pos ⟨by omega, by omega, by omega, by omega⟩] at hK
  simp only [Int.toNat_natCast] at hK
  have hst := x.hot.st.next x.hB hp hmo (rot_ok x.hot.st.ok ..) (by rw [(rot_low ..).1]; omega) (by rw [(rot_low ..).2]; omega)
  refine ⟨_, rfl, ⟨⟨a, Grow F w w', H, G, _, m + 1, K, segs, hsed, ever, dims, x.mem.hotStep (F' := Grow F w w') (H' := H) ⟨hst, hd, ?_, x.hot.ok, x.hot.size, fun g hg => ⟨(x.hot.lt g hg).1, Nat.lt_of_lt_of_le (x.hot.lt g hg).2 hmo.size⟩, fun g hf hH => ?_⟩ (hmo.mono (Nat.le_refl _) fun g _ hf => .inl hf) (fun g hf => hf.imp id (fun h => h.1)) (fun g hg => .inl hg), x.perm, (show _ = false from hoff.trans x.on), by omega, fun k u b hu hb => ?_⟩, hul⟩, (hmo.mono x.hB fun _ _ h => h).below fun g hk hf => by have := (x.hot.st.lt g hf).1; omega⟩
  · exact x.hot.hot.mods hmo fun g hg hH => ⟨hg, fun hf => x.hot.apart g hf hH⟩
  · rcases hf with h | h
    · exact x.hot.apart g h hH
    · have := (x.hot.lt g hH).2; have := h.1; omega
  · obtain ⟨g1, g2, g3⟩ := x.held k u b hu hb
    rw [hK]
    exact rots_plain g1 g2 g3 htu (by omega)
/-- What is read of an object then. -/
theorem Rotten.read (x : Rotten B w s h r n used bytes at_ turn) {k : Nat} {u : Pc} {b : List UInt8} (hu : used[k]? = some u) (hb : bytes[k]? = some b) (bad : Bool) :
    Calls Tryd.prog 26 #[.pointer (some ⟨h, 0, none⟩), .agg #[.int .i64 1, .int .i64 (u.1 : Int), .int .i64 (u.2 : Int), .bool bad]] w fun e w' => ∃ A mm cap code bs, e = .returned (.tuple #[.slice A mm cap, .int .i64 code]) ∧ BAt w' A bs ∧ bs.length = mm ∧ Below w.heap.size w w' ∧
      ((code = 0 ∧ bs = b) ∨ (u.1 ≤ at_ ∧ at_ < u.1 + u.2) ∧ ((code = 4 ∧ mm = 0) ∨ (at_ = u.1 ∧ turn < 4) ∧ code = 0 ∧ mm ≤ 512)) := by
  obtain ⟨⟨a, F, H, G, pm, m, Ks, segs, hsed, ever, dims, y, hp, hon, hm, hr⟩, hful⟩ := x
  have hcase := hr k u b hu hb
  obtain ⟨S, U, z⟩ := y.hot.hot
  refine (hread_any y.hot.st (by omega) z y.hot.ok (by rw [hp.length_eq]; omega) y.hot.disk hon y.hot.size y.tabs.crc (Nat.lt_of_lt_of_le y.tabs.c1 y.hB) 1 (u.1 : Int) (u.2 : Int) bad).mono ?_
  rintro e w' ⟨q, hf, hq⟩
  cases q with
  | none =>
    have := hf u (hp.mem_iff.2 (List.mem_of_getElem? hu))
    rw [isP_its] at this
    cases this
  | some k' =>
    obtain ⟨⟨v, hv, hpv⟩, _⟩ := hf
    have e3 := isP_same (isP_its u) hpv
    subst e3
    obtain ⟨v', hv', hrr⟩ := hq
    rw [hv] at hv'
    injection hv' with hv'
    subst hv'
    unfold ReadP at hrr
    rcases hcase with hc | ⟨hhit, hc | ⟨he, b', hc, hl⟩⟩
    · rw [hc] at hrr
      obtain ⟨A, mm, cap, rfl, ho, hbl⟩ := hrr
      exact ⟨A, mm, cap, 0, b, rfl, ho.bat, ho.len, hbl, .inl ⟨rfl, rfl⟩⟩
    · rw [hc] at hrr
      obtain ⟨rfl, hbl⟩ := hrr
      exact ⟨none, 0, 0, 4, [], rfl, BAt.nil_ _ _, rfl, hbl, .inr ⟨hhit, .inl ⟨rfl, rfl⟩⟩⟩
    · rw [hc] at hrr
      obtain ⟨A, mm, cap, rfl, ho, hbl⟩ := hrr
      exact ⟨A, mm, cap, 0, b', rfl, ho.bat, ho.len, hbl, .inr ⟨hhit, .inr ⟨he, rfl, by rw [← ho.len]; exact hl⟩⟩⟩
end
end Go.Proofs.YtgcckfaljfkkhaaDoor.Hot
/- What every law's row shares: a call that returns true and leaves all that was there meets the row's post; arguments opened to bytes and numbers. No program's function is walked here. -/
namespace Go.Proofs.YtgcckfaljfkkhaaDoor.Law
open Go.RowKit Go.ChangeShapes Go.WideShapes Go.ChangeAt Mem
section
variable {H : Type} {enc : TypeId × Value → H} {P : Program}

theorem trodAll_stays (hl : laidOutB P = true) {W W' : World} (hb : Below W.heap.size W W') :
    ∀ (ts : List TypeId) (vs : List Value) (ds : List (DataW H)) (ps : List MemPlace), (∀ t ∈ ts, P.readableRec t = true ∧ t < P.types.size) →
      DataW.TrodAll enc P W 0 (fun _ => true) true ts vs ds ps → (∀ p ∈ ps, p.block < W.heap.size) → ∀ sp : Nat → Bool, (∀ p ∈ ps, sp p.block = true) →
      DataW.TrodAll enc P W' 0 sp true ts vs ds ps
  | [], [], [], ps, _, h, _, _, _ => h
  | t :: ts, v :: vs, d :: ds, ps, hr, h, hlt, sp, hsp => by
    obtain ⟨p, q, hp, hq, rfl⟩ := h
    refine ⟨p, q, ?_, trodAll_stays hl hb ts vs ds q (fun t ht => hr t (List.mem_cons_of_mem _ ht)) hq (fun x hx => hlt x (List.mem_append_right _ hx)) sp (fun x hx => hsp x (List.mem_append_right _ hx)), rfl⟩
    exact WideElems.Trod_stays hl (hr t (List.mem_cons_self ..)).1 (hr t (List.mem_cons_self ..)).2 hp (fun x hx => hb.same (hlt x (List.mem_append_left _ hx))) (fun x hx => hsp x (List.mem_append_left _ hx))
  | [], [], _ :: _, _, _, h, _, _, _ => h.elim
  | [], _ :: _, _, _, _, h, _, _, _ => h.elim
  | _ :: _, [], _, _, _, h, _, _, _ => h.elim
  | _ :: _, _ :: _, [], _, _, h, _, _, _ => h.elim

/-- A LAW's END: it returned true, and all that was there is as it was. -/
theorem post_law {f : Func} {s : ChangeSpec} {apart : Bool} {W W' : World} {args : Array Value} {ds gs : List (DataW H)} {before : List MemPlace} {tb : TypeId}
    (hW : DataW.Whole enc P f.params.toList s.vars apart W args.toList ds gs before) (hv : s.vars = []) (hres : f.resultTypes = #[tb]) (htb : P.underlying tb = some .bool)
    (hfn : s.fn H (ds ++ gs) = { results := [.lit (.bool true)], args := ds }) (hl : laidOutB P = true) (hr : ∀ t ∈ f.params.toList, P.readableRec t = true ∧ t < P.types.size)
    (hb : Below W.heap.size W W') : s.post enc P f apart true false false W args (.bool true) W' := by
  have hlt : ∀ p ∈ before, p.block < W.heap.size := fun p hp => hW.lt p hp
  have hW' := hW
  obtain ⟨p, q, hA, hV, rfl, _, _⟩ := hW
  rw [hv] at hV
  obtain ⟨rfl, rfl⟩ := trodVars_none hV
  refine ⟨ds, [], p ++ [], [], p, [], hW', ?_, ?_, ?_, World.keptBut_mono (fun x hx => ⟨hx, ?_⟩) (hb.frame (· ∈ p ++ [])), fun h => by cases h⟩
  · rw [hfn, hres]
    exact trodAll_mk1 (shut_bool htb true)
  · rw [hfn]
    exact trodAll_stays hl hb _ _ _ _ hr hA (fun x hx => hlt x (List.mem_append_left _ hx)) _ (fun x hx => by simpa using hlt x (List.mem_append_left _ hx))
  · rw [hfn, hv]; rfl
  · exact .inr (.inl (by simpa using hx))

theorem wf_u8 {n : Int} (h : (Lit.int .u8 n).wf = true) : 0 ≤ n ∧ n < 256 := by
  simp [Lit.wf, IntKind.min, IntKind.max, IntKind.signed, IntKind.bits] at h
  omega
/-- A slice of bytes among the arguments. -/
theorem open_bytes {W : World} {r : Reach} {b0 : Nat} {t e : TypeId} {v : Value} {d : DataW H} {ps : List MemPlace} (ht : P.underlying t = some (.slice e)) (he : P.underlying e = some (.int .u8)) (hc : P.cellsOf e = 1)
    (hval : Value.okWide P W r b0 t v) (h : DataW.Trod enc P W 0 (fun _ => true) true t v d ps) :
    ∃ (A : Option Addr) (n cap : Nat) (bs : List UInt8), v = .slice A n cap ∧ BAt W A bs ∧ bs.length = n ∧ n ≤ cap ∧ cap ≤ maxLen ∧
      ((A = none ∧ cap = 0 ∧ d = .nil) ∨ ∃ zs : List Int, d = .slice (lits .u8 (zs.take n)) (lits .u8 (zs.drop n)) ∧ zs.length = cap) := by
  obtain ⟨A, n, cap, rfl⟩ := okWide_slice ht hval
  obtain ⟨fuel, hf⟩ := h
  rcases open_ints ht he hc hf with ⟨hcs, hx⟩ | ⟨a, n', cap', zs, hcs, _, hl, hm, hz, hx, hcell, hwz⟩
  · simp [Value.cells] at hcs
    obtain ⟨rfl, rfl, rfl⟩ := hcs
    simp only [Prod.mk.injEq] at hx
    exact ⟨none, 0, 0, [], rfl, BAt.nil_ _ _, rfl, Nat.le_refl _, by unfold maxLen; omega, .inl ⟨rfl, rfl, hx.1⟩⟩
  · simp [Value.cells] at hcs
    obtain ⟨rfl, rfl, rfl⟩ := hcs
    simp only [Prod.mk.injEq] at hx
    simp only [if_true] at hz
    refine ⟨some a, n, cap, (zs.take n).map fun z => UInt8.ofNat z.toNat, rfl, fun _ => ⟨a, rfl, fun k hk => ?_⟩, by simp; omega, hl, hm, .inr ⟨zs, hx.1, hz⟩⟩
    simp at hk
    rw [hcell k (by omega)]
    have hkz : k < zs.length := by omega
    have hw := wf_u8 (hwz zs[k] (List.getElem_mem hkz))
    have hv := V8_ofInt zs[k] hw.1 hw.2
    simp [List.getD, hkz, List.getElem_take, hk]
    exact hv
theorem wf_u32 {n : Int} (h : (Lit.int .u32 n).wf = true) : 0 ≤ n ∧ n < 4294967296 := by
  simp [Lit.wf, IntKind.min, IntKind.max, IntKind.signed, IntKind.bits] at h
  omega
theorem wf_u64 {n : Int} (h : (Lit.int .u64 n).wf = true) : 0 ≤ n ∧ n < 18446744073709551616 := by
  simp [Lit.wf, IntKind.min, IntKind.max, IntKind.signed, IntKind.bits] at h
  omega
theorem wf_i64 {n : Int} (h : (Lit.int .i64 n).wf = true) : -9223372036854775808 ≤ n ∧ n < 9223372036854775808 := by
  simp [Lit.wf, IntKind.min, IntKind.max, IntKind.signed, IntKind.bits] at h
  omega
/-! ### The form's own reach -/
theorem reach_cons {t : TypeId} {ts : List TypeId} {d : DataW H} {ds : List (DataW H)} (h : (DataW.weightsEach P (t :: ts) (d :: ds)).all (· ≤ reachBytes) = true) :
    (d.weights P t).all (· ≤ reachBytes) = true ∧ (DataW.weightsEach P ts ds).all (· ≤ reachBytes) = true := by
  simp only [DataW.weightsEach, List.all_append, Bool.and_eq_true] at h
  exact h
theorem reach_bytes {t e : TypeId} {A : Option Addr} {n cap : Nat} {d : DataW H} (ht : P.underlying t = some (.slice e)) (hb : P.bytesOf e = 1) (hn : n ≤ cap)
    (hd : (A = none ∧ cap = 0 ∧ d = .nil) ∨ ∃ zs : List Int, d = .slice (lits .u8 (zs.take n)) (lits .u8 (zs.drop n)) ∧ zs.length = cap)
    (h : (d.weights P t).all (· ≤ reachBytes) = true) : cap ≤ 140737488351232 := by
  rcases hd with ⟨_, rfl, _⟩ | ⟨zs, rfl, rfl⟩
  · omega
  · simp only [DataW.weights, ht, hb, List.all_cons, Bool.and_eq_true, decide_eq_true_eq] at h
    have h1 := h.1
    simp [lits, reachBytes] at h1
    omega
/-! ### The bound of the second form -/
theorem bulk_one {d : DataW H} : 1 ≤ Rows.uptoBulk d := by
  cases d with
  | lit l => cases l <;> simp [Rows.uptoBulk]
  | nil => simp [Rows.uptoBulk]
  | ptr d => simp [Rows.uptoBulk]
  | slice elems spare => simp [Rows.uptoBulk]
  | agg parts => simp [Rows.uptoBulk]
  | iface t d => simp [Rows.uptoBulk]
  | map entries => simp [Rows.uptoBulk]
  | held _ => simp [Rows.uptoBulk]
theorem bulk_length (l : List (DataW H)) : l.length ≤ Rows.uptoBulkAll l := by
  induction l with
  | nil => simp [Rows.uptoBulkAll]
  | cons x r ih => have := bulk_one (d := x); simp only [Rows.uptoBulkAll, List.length_cons]; omega
theorem bulk_bytes {A : Option Addr} {n cap : Nat} {d : DataW H} (hn : n ≤ cap)
    (hd : (A = none ∧ cap = 0 ∧ d = .nil) ∨ ∃ zs : List Int, d = .slice (lits .u8 (zs.take n)) (lits .u8 (zs.drop n)) ∧ zs.length = cap) : cap ≤ Rows.uptoBulk d := by
  rcases hd with ⟨_, rfl, _⟩ | ⟨zs, rfl, rfl⟩
  · omega
  · have h1 := bulk_length (lits (H := H) .u8 (zs.take n))
    have h2 := bulk_length (lits (H := H) .u8 (zs.drop n))
    rw [show (lits (H := H) .u8 (zs.take n)).length = (zs.take n).length from by simp [lits]] at h1
    rw [show (lits (H := H) .u8 (zs.drop n)).length = (zs.drop n).length from by simp [lits]] at h2
    rw [List.length_take] at h1
    rw [List.length_drop] at h2
    simp only [Rows.uptoBulk]
    omega
end
end Go.Proofs.YtgcckfaljfkkhaaDoor.Law
/- What the rows of layer 14 share: the tables' cells out of the row's list; a world for the witness. -/
namespace Go.Proofs.YtgcckfaljfkkhaaDoor.Hot
open Go.ChangeShapes Go.WideShapes Go.ChangeAt Go.RowKit Mem
theorem own : ownKnob Tryd.prog.godebug = none := by kernel_rfl
theorem laidOut : laidOutB Tryd.prog = true := by kernel_rfl
theorem gTab : Tryd.prog.globalNamed "muniment/crc.nibbles" = some 1 := by kernel_rfl
theorem gTabType : (Tryd.prog.globals[1]?).map (·.type) = some 125 := by kernel_rfl
theorem gTz : Tryd.prog.globalNamed "math/bits.deBruijn32tab" = some 0 := by kernel_rfl
theorem gTzType : (Tryd.prog.globals[0]?).map (·.type) = some 121 := by kernel_rfl
theorem cellsArr : Tryd.prog.cellsOf 125 = 16 := by kernel_rfl
theorem cellsArr8 : Tryd.prog.cellsOf 121 = 32 := by kernel_rfl
theorem cellsU32 : Tryd.prog.cellsOf 110 = 1 := by kernel_rfl
theorem cellsU8 : Tryd.prog.cellsOf 5 = 1 := by kernel_rfl
theorem cellsI64 : Tryd.prog.cellsOf 3 = 1 := by kernel_rfl
theorem bytesU8 : Tryd.prog.bytesOf 5 = 1 := by kernel_rfl
def nums : List Int := [0, 498536548, 997073096, 651767980, 1994146192, 1802195444, 1303535960, 1342533948, 3988292384, 4027552580, 3604390888, 3412177804, 2607071920, 2262029012, 2685067896, 3183342108]
theorem nums_nib : ∀ i : Fin 16, nums.getD i.val 0 = Crc.U (Crc.nib i.val) := by decide
theorem laidMet_tail {P : Program} {W : World} {x : String × DataW Unit} {rest : List (String × DataW Unit)} (h : laidMet P (x :: rest) W) : laidMet P rest W := by
  obtain ⟨ps, ⟨g', t', cs, fuel, p, q, hg', ht', hvar, hd, hr, hq⟩, hn, hm⟩ := h
  subst hq
  exact ⟨q, hr, (List.nodup_append.1 hn).2.1, fun b off hin => hm b off (List.mem_append_right _ hin)⟩
/-- WHAT THE ROW's LIST GIVES: both tables' cells. -/
theorem table {W : World} (h : laidMetH Tryd.prog [("math/bits.deBruijn32tab", Rows.laid_math_bits_deBruijn32tab), ("muniment/crc.nibbles", Rows.laid_muniment_crc_nibbles)] W) : Tabs W.heap.size W := by
  have h : laidMet Tryd.prog [("math/bits.deBruijn32tab", Rows.laid_math_bits_deBruijn32tab), ("muniment/crc.nibbles", Rows.laid_muniment_crc_nibbles)] W := h
  have hz : Lib.TabIs Tryd.prog W "math/bits.deBruijn32tab" .u8 tzs :=
    Lib.tabIs_of_head gTz gTzType Tryd.underlying121 Tryd.underlying5 cellsU8 cellsArr8 h
  have ht : Lib.TabIs Tryd.prog W "muniment/crc.nibbles" .u32 nums :=
    Lib.tabIs_of_head (rest := []) gTab gTabType Tryd.underlying125 Tryd.underlying110 cellsU32 cellsArr (laidMet_tail h)
  have h1 : Crc.Tab W := by
    intro i hi
    rw [ht.cell gTab i hi, nums_nib ⟨i, hi⟩]
  have h2 : Tz W := fun i hi => hz.cell gTz i hi
  exact ⟨h1, h2, cell_lt (h1 0 (by decide)), cell_lt (h2 0 (by decide))⟩
/-- A variable's cells laid. -/
def layCells (xs : Array Value) : Obj → Obj
  | .cells _ t frozen => .cells xs t frozen
  | o => o
/-- A WORLD FOR THE WITNESS: the settled one, the tables holding what their initialisers lay. -/
noncomputable def laidWorld (os : Os) : World :=
  { World.holding Tryd.prog os ⟨#[], #[], []⟩ with heap := ((World.holding Tryd.prog os ⟨#[], #[], []⟩).heap.modify 1 (layCells #[.int .u32 0, .int .u32 498536548, .int .u32 997073096, .int .u32 651767980, .int .u32 1994146192, .int .u32 1802195444, .int .u32 1303535960, .int .u32 1342533948, .int .u32 3988292384, .int .u32 4027552580, .int .u32 3604390888, .int .u32 3412177804, .int .u32 2607071920, .int .u32 2262029012, .int .u32 2685067896, .int .u32 3183342108])).modify 0 (layCells #[.int .u8 0, .int .u8 1, .int .u8 28, .int .u8 2, .int .u8 29, .int .u8 14, .int .u8 24, .int .u8 3, .int .u8 30, .int .u8 22, .int .u8 20, .int .u8 15, .int .u8 25, .int .u8 17, .int .u8 4, .int .u8 8, .int .u8 31, .int .u8 27, .int .u8 13, .int .u8 23, .int .u8 21, .int .u8 19, .int .u8 16, .int .u8 7, .int .u8 26, .int .u8 12, .int .u8 18, .int .u8 6, .int .u8 11, .int .u8 5, .int .u8 10, .int .u8 9]) }
end Go.Proofs.YtgcckfaljfkkhaaDoor.Hot
/- Opening the arguments of layer 14's laws: numbers, rows of numbers, of places, of bytes, of calls. -/
namespace Go.Proofs.YtgcckfaljfkkhaaDoor.Hot
open Go.ChangeShapes Go.WideShapes Go.ChangeAt Go.RowKit Mem Law Pl
theorem cellsIS : Tryd.prog.cellsOf 34 = 1 := by kernel_rfl
theorem cellsBS : Tryd.prog.cellsOf 41 = 1 := by kernel_rfl
theorem cellsBool : Tryd.prog.cellsOf 4 = 1 := by kernel_rfl
theorem cellsPl : Tryd.prog.cellsOf 36 = 4 := by kernel_rfl
theorem cellsOp : Tryd.prog.cellsOf 53 = 8 := by kernel_rfl
variable {H : Type} {enc : TypeId × Value → H} {P : Program}
theorem bulk_mem {l : List (DataW H)} {d : DataW H} (h : d ∈ l) : Rows.uptoBulk d ≤ Rows.uptoBulkAll l := by
  induction l with
  | nil => cases h
  | cons x r ih =>
    simp only [Rows.uptoBulkAll]
    rcases List.mem_cons.1 h with rfl | h
    · omega
    · have := ih h; omega
theorem list_choose {α : Type} (n : Nat) (Q : Nat → α → Prop) (h : ∀ i, i < n → ∃ x, Q i x) : ∃ l : List α, l.length = n ∧ ∀ (i : Nat) (hi : i < l.length), Q i l[i] := by
  induction n with
  | zero => exact ⟨[], rfl, fun i hi => absurd hi (by simp)⟩
  | succ n ih =>
    obtain ⟨l, hl, hq⟩ := ih fun i hi => h i (by omega)
    obtain ⟨x, hx⟩ := h n (by omega)
    refine ⟨l ++ [x], by simp [hl], fun i hi => ?_⟩
    rcases Nat.lt_or_ge i n with hlt | hge
    · rw [List.getElem_append_left (by omega)]
      exact hq i (by omega)
    · obtain rfl : i = n := by simp [hl] at hi; omega
      simpa [List.getElem_append_right, hl] using hx
/-- A cell that is a slice of bytes. -/
theorem cell_bytes {W : World} {t e : TypeId} {fuel : Nat} {cs : List Value} {x : DataW H × List MemPlace} (ht : P.underlying t = some (.slice e)) (he : P.underlying e = some (.int .u8)) (hc : P.cellsOf e = 1)
    (h : DataW.trod enc P W 0 (fun _ => true) true fuel t cs = some x) :
    ∃ (B : Option Addr) (bs : List UInt8) (c : Nat), cs = [.slice B bs.length c] ∧ BAt W B bs ∧ bs.length ≤ Rows.uptoBulk x.1 := by
  rcases open_ints ht he hc h with ⟨rfl, rfl⟩ | ⟨a, n, cap, zs, rfl, _, hl, hm, hz, rfl, hcell, hwz⟩
  · exact ⟨none, [], 0, rfl, BAt.nil_ _ _, by simp⟩
  · simp only [if_true] at hz
    have hlen : ((zs.take n).map fun z => UInt8.ofNat z.toNat).length = n := by simp; omega
    refine ⟨some a, (zs.take n).map fun z => UInt8.ofNat z.toNat, cap, by rw [hlen], fun _ => ⟨a, rfl, fun k hk => ?_⟩, ?_⟩
    · rw [hlen] at hk
      rw [hcell k (by omega)]
      have hkz : k < zs.length := by omega
      have hw := wf_u8 (hwz zs[k] (List.getElem_mem hkz))
      have hv := V8_ofInt zs[k] hw.1 hw.2
      simp [List.getD, hkz, hk]
      exact hv
    · rw [hlen]
      have h1 := bulk_length (lits (H := H) .u8 (zs.take n))
      rw [show (lits (H := H) .u8 (zs.take n)).length = (zs.take n).length from by simp [lits], List.length_take] at h1
      simp only [Rows.uptoBulk]
      omega
theorem cell_ints {W : World} {t e : TypeId} {cs : List Value} {fuel : Nat} {x : DataW H × List MemPlace} (ht : P.underlying t = some (.slice e)) (he : P.underlying e = some (.int .i64)) (hc : P.cellsOf e = 1)
    (hf : DataW.trod enc P W 0 (fun _ => true) true fuel t cs = some x) :
    ∃ (A : Option Addr) (n cap : Nat) (zs : List Int), cs = [.slice A n cap] ∧ IAt W A zs ∧ zs.length = n ∧ cap ≤ maxLen ∧ n ≤ cap ∧ n ≤ Rows.uptoBulk x.1 ∧ ∀ z ∈ zs, inI z := by
  rcases open_ints ht he hc hf with ⟨hcs, hx⟩ | ⟨a, n', cap', zs, hcs, _, hl, hm, hz, hx, hcell, hwz⟩
  · exact ⟨none, 0, 0, [], hcs, .inl rfl, rfl, by unfold maxLen; omega, Nat.le_refl _, Nat.zero_le _, fun z hz => by simp at hz⟩
  · simp only [if_true] at hz
    refine ⟨some a, n', cap', zs.take n', hcs, .inr ⟨a, rfl, fun k z hk => ?_⟩, by simp; omega, hm, hl, ?_, fun z hz => wf_i64 (hwz z (List.mem_of_mem_take hz))⟩
    · obtain ⟨hk1, hk2⟩ := List.getElem?_eq_some_iff.1 hk
      rw [List.length_take] at hk1
      rw [hcell k (by omega)]
      rw [List.getElem_take] at hk2
      have hkz : k < zs.length := by omega
      rw [List.getD_eq_getElem?_getD, List.getElem?_eq_getElem hkz, hk2]
      rfl
    · subst hx
      have h1 := bulk_length (lits (H := H) .i64 (zs.take n'))
      rw [show (lits (H := H) .i64 (zs.take n')).length = (zs.take n').length from by simp [lits], List.length_take] at h1
      simp only [Rows.uptoBulk]
      omega
set_option maxRecDepth 100000 in
theorem open_is {W : World} {r : Reach} {b0 : Nat} {v : Value} {d : DataW H} {ps : List MemPlace} (hval : Value.okWide Tryd.prog W r b0 34 v) (h : DataW.Trod enc Tryd.prog W 0 (fun _ => true) true 34 v d ps) :
    ∃ (A : Option Addr) (n cap : Nat) (zs : List Int), v = .slice A n cap ∧ IAt W A zs ∧ zs.length = n ∧ cap ≤ maxLen ∧ n ≤ cap ∧ n ≤ Rows.uptoBulk d ∧ ∀ z ∈ zs, inI z := by
  obtain ⟨A, n, cap, rfl⟩ := okWide_slice Tryd.underlying34 hval
  obtain ⟨fuel, hf⟩ := h
  obtain ⟨A', n', cap', zs, hcs, h1⟩ := cell_ints Tryd.underlying34 Tryd.underlying3 cellsI64 hf
  simp [Value.cells] at hcs
  obtain ⟨rfl, rfl, rfl⟩ := hcs
  exact ⟨A, n, cap, zs, rfl, h1⟩
set_option maxRecDepth 100000 in
theorem cell_place {W : World} {fuel : Nat} {cs : List Value} {x : DataW H × List MemPlace} (h : DataW.trod enc Tryd.prog W 0 (fun _ => true) true fuel 36 cs = some x) : ∃ p : Plc, cs = p.cells ∧ inI p.at_ := by
  obtain ⟨xs, k, _, _, hl, hlen, hf⟩ := DataW.trod_struct Tryd.underlying36 h
  rw [cellsPl] at hl
  match xs, hlen with
  | [y0, y1, y2, y3], _ =>
    have g0 : DataW.trod enc Tryd.prog W 0 (fun _ => true) true k 3 ((cs.drop 0).take (Tryd.prog.cellsOf 3)) = some y0 := hf 0 _ rfl
    have g1 : DataW.trod enc Tryd.prog W 0 (fun _ => true) true k 3 ((cs.drop 1).take (Tryd.prog.cellsOf 3)) = some y1 := hf 1 _ rfl
    have g2 : DataW.trod enc Tryd.prog W 0 (fun _ => true) true k 3 ((cs.drop 2).take (Tryd.prog.cellsOf 3)) = some y2 := hf 2 _ rfl
    have g3 : DataW.trod enc Tryd.prog W 0 (fun _ => true) true k 4 ((cs.drop 3).take (Tryd.prog.cellsOf 4)) = some y3 := hf 3 _ rfl
    rw [cellsI64] at g0 g1 g2
    rw [cellsBool] at g3
    obtain ⟨a, e0, _⟩ := DataW.trod_int Tryd.underlying3 g0
    obtain ⟨b, e1, _, w1⟩ := DataW.trod_int Tryd.underlying3 g1
    obtain ⟨c, e2, _⟩ := DataW.trod_int Tryd.underlying3 g2
    obtain ⟨d, e3, _⟩ := DataW.trod_bool Tryd.underlying4 g3
    match cs, hl with
    | [v0, v1, v2, v3], _ =>
      simp at e0 e1 e2 e3
      exact ⟨⟨a, b, c, d⟩, by rw [e0, e1, e2, e3]; rfl, wf_i64 w1⟩
set_option maxRecDepth 100000 in
theorem cell_op {W : World} {fuel : Nat} {cs : List Value} {x : DataW H × List MemPlace} (h : DataW.trod enc Tryd.prog W 0 (fun _ => true) true fuel 53 cs = some x) :
    ∃ o : OpH, cs = o.val.toList ∧ (o.L ≤ Rows.uptoBulk x.1 → o.L ≤ 140737488355327 → OpHOk W o) ∧ o.L ≤ Rows.uptoBulk x.1 := by
  obtain ⟨xs, k, _, hx, hl, hlen, hf⟩ := DataW.trod_struct Tryd.underlying53 h
  rw [cellsOp] at hl
  match xs, hlen with
  | [y0, y1, y2, y3, y4], _ =>
    have g0 : DataW.trod enc Tryd.prog W 0 (fun _ => true) true k 3 ((cs.drop 0).take (Tryd.prog.cellsOf 3)) = some y0 := hf 0 _ rfl
    have g1 : DataW.trod enc Tryd.prog W 0 (fun _ => true) true k 3 ((cs.drop 1).take (Tryd.prog.cellsOf 3)) = some y1 := hf 1 _ rfl
    have g2 : DataW.trod enc Tryd.prog W 0 (fun _ => true) true k 41 ((cs.drop 2).take (Tryd.prog.cellsOf 41)) = some y2 := hf 2 _ rfl
    have g3 : DataW.trod enc Tryd.prog W 0 (fun _ => true) true k 36 ((cs.drop 3).take (Tryd.prog.cellsOf 36)) = some y3 := hf 3 _ rfl
    have g4 : DataW.trod enc Tryd.prog W 0 (fun _ => true) true k 34 ((cs.drop 7).take (Tryd.prog.cellsOf 34)) = some y4 := hf 4 _ rfl
    rw [cellsI64] at g0 g1
    rw [cellsBS] at g2
    rw [cellsPl] at g3
    rw [cellsIS] at g4
    obtain ⟨a0, e0, _, w0⟩ := DataW.trod_int Tryd.underlying3 g0
    obtain ⟨a1, e1, _, w1⟩ := DataW.trod_int Tryd.underlying3 g1
    obtain ⟨B, bs, c, e2, hB, hbk⟩ := cell_bytes Tryd.underlying41 Tryd.underlying5 cellsU8 g2
    obtain ⟨p, e3, _⟩ := cell_place g3
    obtain ⟨AK, nk, ck, zs, e4, hz, hzl, hcm, hnc, _, _⟩ := cell_ints Tryd.underlying34 Tryd.underlying3 cellsI64 g4
    match cs, hl with
    | [v0, v1, v2, v3, v4, v5, v6, v7], _ =>
      simp [Plc.cells] at e0 e1 e2 e3 e4
      obtain ⟨e30, e31, e32, e33⟩ := e3
      refine ⟨⟨a0, a1, B, bs.length, c, p, AK, nk, ck, bs, zs⟩, by rw [e0, e1, e2, e30, e31, e32, e33, e4]; rfl, fun _ hL => ⟨wf_i64 w0, wf_i64 w1, hB, rfl, hL, hz, hzl, ?_⟩, ?_⟩
      · show nk ≤ _
        unfold maxLen at hcm
        omega
      · show bs.length ≤ _
        subst hx
        refine Nat.le_trans hbk ?_
        have := bulk_mem (l := [y0, y1, y2, y3, y4].map (·.1)) (d := y2.1) (by simp)
        simp only [Rows.uptoBulk]
        omega
set_option maxRecDepth 100000 in
/-- A row of calls. -/
theorem open_opsH {W : World} {r : Reach} {b0 : Nat} {v : Value} {d : DataW H} {ps : List MemPlace} (hval : Value.okWide Tryd.prog W r b0 50 v) (h : DataW.Trod enc Tryd.prog W 0 (fun _ => true) true 50 v d ps) (hbd : Rows.uptoBulk d ≤ 140737488355327) :
    ∃ (A : Option Addr) (n cap : Nat) (os : List OpH), v = .slice A n cap ∧ OpsHAt W A os ∧ os.length = n ∧ n ≤ Rows.uptoBulk d ∧ n ≤ cap := by
  obtain ⟨A, n, cap, rfl⟩ := okWide_slice Tryd.underlying50 hval
  obtain ⟨fuel, hf⟩ := h
  rcases DataW.trod_slice Tryd.underlying50 hf with ⟨hcs, hx⟩ | ⟨a, len, cap', elems, rest, m, _, hcs, hx, _, hl, _, hlen, hel, _, _⟩
  · simp [Value.cells] at hcs
    obtain ⟨rfl, rfl, rfl⟩ := hcs
    exact ⟨none, 0, 0, [], rfl, fun i o h => by simp at h, rfl, Nat.zero_le _, Nat.le_refl _⟩
  · simp [Value.cells] at hcs
    obtain ⟨rfl, rfl, rfl⟩ := hcs
    simp only [Prod.mk.injEq] at hx
    have hbulk : Rows.uptoBulk d = Rows.uptoBulkAll (elems.map (·.1)) + Rows.uptoBulkAll (rest.map (·.1)) + 1 := by rw [hx.1]; simp only [Rows.uptoBulk]
    obtain ⟨l, hll, hq⟩ := list_choose (α := OpH) n (fun i o => OpHAt W (a.add (i * 8)) o ∧ OpHOk W o) fun i hi => by
      have h1 := hel i hi
      rw [List.getElem?_eq_getElem (by omega), cellsOp, Option.bind_eq_some_iff] at h1
      obtain ⟨cs', hcs', hy⟩ := h1
      obtain ⟨o, rfl, ho, hoL⟩ := cell_op hy
      have hm := bulk_mem (l := elems.map (·.1)) (List.mem_map.2 ⟨elems[i], List.getElem_mem (by omega), rfl⟩)
      have hc := (World.cells?_some hcs').2.2
      have c0 := hc 0 (by decide)
      rw [show (a.add (i * 8)).add 0 = a.add (i * 8) from rfl] at c0
      exact ⟨o, ⟨c0, hc 1 (by decide), hc 2 (by decide), hc 3 (by decide), hc 4 (by decide), hc 5 (by decide), hc 6 (by decide), hc 7 (by decide)⟩, ho hoL (by omega)⟩
    refine ⟨some a, n, cap, l, rfl, fun i o ho => ?_, hll, ?_, hl⟩
    · obtain ⟨hi, he⟩ := List.getElem?_eq_some_iff.1 ho
      have g := hq i hi
      rw [he] at g
      exact ⟨a, rfl, g.1, g.2⟩
    · have h1 := bulk_length (elems.map (·.1))
      rw [List.length_map] at h1
      omega
end Go.Proofs.YtgcckfaljfkkhaaDoor.Hot
/- Opening a law's argument that is a row of places, or of rows of bytes. -/
namespace Go.Proofs.YtgcckfaljfkkhaaDoor.Hot
open Go.ChangeShapes Go.WideShapes Go.ChangeAt Go.RowKit Mem Law Pl
variable {H : Type} {enc : TypeId × Value → H}
set_option maxRecDepth 100000 in
theorem open_plsH {W : World} {r : Reach} {b0 : Nat} {v : Value} {d : DataW H} {ps : List MemPlace} (hval : Value.okWide Tryd.prog W r b0 22 v) (h : DataW.Trod enc Tryd.prog W 0 (fun _ => true) true 22 v d ps) :
    ∃ (A : Option Addr) (n cap : Nat) (os : List Plc), v = .slice A n cap ∧ PlsAt W A os ∧ os.length = n ∧ n ≤ Rows.uptoBulk d ∧ n ≤ cap := by
  obtain ⟨A, n, cap, rfl⟩ := okWide_slice Tryd.underlying22 hval
  obtain ⟨fuel, hf⟩ := h
  rcases DataW.trod_slice Tryd.underlying22 hf with ⟨hcs, hx⟩ | ⟨a, len, cap', elems, rest, m, _, hcs, hx, _, hl, _, hlen, hel, _, _⟩
  · simp [Value.cells] at hcs
    obtain ⟨rfl, rfl, rfl⟩ := hcs
    exact ⟨none, 0, 0, [], rfl, fun i o h => by simp at h, rfl, Nat.zero_le _, Nat.le_refl _⟩
  · simp [Value.cells] at hcs
    obtain ⟨rfl, rfl, rfl⟩ := hcs
    simp only [Prod.mk.injEq] at hx
    have hbulk : Rows.uptoBulk d = Rows.uptoBulkAll (elems.map (·.1)) + Rows.uptoBulkAll (rest.map (·.1)) + 1 := by rw [hx.1]; simp only [Rows.uptoBulk]
    obtain ⟨l, hll, hq⟩ := list_choose (α := Plc) n (fun i p => inI p.at_ ∧ PlAt W (a.add (i * 4)) p) fun i hi => by
      have h1 := hel i hi
      rw [List.getElem?_eq_getElem (by omega), cellsPl, Option.bind_eq_some_iff] at h1
      obtain ⟨cs', hcs', hy⟩ := h1
      obtain ⟨p, rfl, hin⟩ := cell_place hy
      have hc := (World.cells?_some hcs').2.2
      have c0 := hc 0 (by decide)
      rw [show (a.add (i * 4)).add 0 = a.add (i * 4) from rfl] at c0
      exact ⟨p, hin, c0, hc 1 (by decide), hc 2 (by decide), hc 3 (by decide)⟩
    refine ⟨some a, n, cap, l, rfl, fun i o ho => ?_, hll, ?_, hl⟩
    · obtain ⟨hi, he⟩ := List.getElem?_eq_some_iff.1 ho
      have g := hq i hi
      rw [he] at g
      exact ⟨a, rfl, g.1, g.2⟩
    · have h1 := bulk_length (elems.map (·.1))
      rw [List.length_map] at h1
      omega
/-- A row of rows of bytes. -/
def RowsAt (W : World) (A : Option Addr) (l : List (List UInt8)) : Prop := ∀ i b, l[i]? = some b → ∃ ad B c, A = some ad ∧ W.cell? (ad.add i) = some (.slice B b.length c) ∧ BAt W B b
set_option maxRecDepth 100000 in
theorem open_rowsH {W : World} {r : Reach} {b0 : Nat} {v : Value} {d : DataW H} {ps : List MemPlace} (hval : Value.okWide Tryd.prog W r b0 43 v) (h : DataW.Trod enc Tryd.prog W 0 (fun _ => true) true 43 v d ps) :
    ∃ (A : Option Addr) (n cap : Nat) (l : List (List UInt8)), v = .slice A n cap ∧ RowsAt W A l ∧ l.length = n ∧ n ≤ Rows.uptoBulk d ∧ ∀ b ∈ l, b.length ≤ Rows.uptoBulk d := by
  obtain ⟨A, n, cap, rfl⟩ := okWide_slice Tryd.underlying43 hval
  obtain ⟨fuel, hf⟩ := h
  rcases DataW.trod_slice Tryd.underlying43 hf with ⟨hcs, hx⟩ | ⟨a, len, cap', elems, rest, m, _, hcs, hx, _, hl, _, hlen, hel, _, _⟩
  · simp [Value.cells] at hcs
    obtain ⟨rfl, rfl, rfl⟩ := hcs
    exact ⟨none, 0, 0, [], rfl, fun i o h => by simp at h, rfl, Nat.zero_le _, fun b hb => by simp at hb⟩
  · simp [Value.cells] at hcs
    obtain ⟨rfl, rfl, rfl⟩ := hcs
    simp only [Prod.mk.injEq] at hx
    have hbulk : Rows.uptoBulk d = Rows.uptoBulkAll (elems.map (·.1)) + Rows.uptoBulkAll (rest.map (·.1)) + 1 := by rw [hx.1]; simp only [Rows.uptoBulk]
    obtain ⟨l, hll, hq⟩ := list_choose (α := List UInt8) n (fun i bs => (∃ (B : Option Addr) (c : Nat), W.cell? (a.add i) = some (.slice B bs.length c) ∧ BAt W B bs) ∧ bs.length ≤ Rows.uptoBulk d) fun i hi => by
      have h1 := hel i hi
      rw [List.getElem?_eq_getElem (by omega), cellsBS, Nat.mul_one, Option.bind_eq_some_iff] at h1
      obtain ⟨cs', hcs', hy⟩ := h1
      obtain ⟨B, bs, c, rfl, hB, hbk⟩ := cell_bytes Tryd.underlying41 Tryd.underlying5 cellsU8 hy
      have hm := bulk_mem (l := elems.map (·.1)) (List.mem_map.2 ⟨elems[i], List.getElem_mem (by omega), rfl⟩)
      exact ⟨bs, ⟨B, c, cell_of_cells?_one hcs', hB⟩, by omega⟩
    refine ⟨some a, n, cap, l, rfl, fun i b hb => ?_, hll, ?_, fun b hb => ?_⟩
    · obtain ⟨hi, he⟩ := List.getElem?_eq_some_iff.1 hb
      obtain ⟨⟨B, c, g1, g2⟩, _⟩ := hq i hi
      rw [he] at g1 g2
      exact ⟨a, B, c, rfl, g1, g2⟩
    · have h1 := bulk_length (elems.map (·.1))
      rw [List.length_map] at h1
      omega
    · obtain ⟨i, hi⟩ := List.getElem?_of_mem hb
      obtain ⟨hi, he⟩ := List.getElem?_eq_some_iff.1 hi
      rw [← he]
      exact (hq i hi).2
end Go.Proofs.YtgcckfaljfkkhaaDoor.Hot
/- The law 'HotlogRots'. -/
namespace Go.Proofs.YtgcckfaljfkkhaaDoor.Hot
open Go Go.RowKit Mem Pl Disk Crc _root_.Go.Proofs.YtgcckfaljfkkhaaDoor.Frame
theorem Stood.appendLow {W w : World} {s a r n m ever dims k : Nat} (x : Stood W.heap.size w s a r n m ever dims k) (hb : Below W.heap.size W w) (hk : k ≤ 90000000) (hm : m ≤ 900000000) (hev : ever ≤ 4000000000000000000) (hdi : dims ≤ 4000000000000000000)
    (kind num : Int) (A : Option Addr) (L cap : Nat) (bs : List UInt8) (hbs : BAt W A bs) (hl : bs.length = L) (hL : L ≤ 140737488355327) (p : Plc) :
    Calls Tryd.prog 24 #[.pointer (some ⟨s, 0, none⟩), opV kind num A L cap p none 0 0] w fun e w2 => e = .returned (.bool true) ∧ Below W.heap.size W w2 ∧ Stood W.heap.size w2 s a r n (m + 20) (ever + 9) (dims + 1) (k + 1) := by
  obtain ⟨h, F, H, G, pm, m', Hs, segs, hsed, used, bytes, ever', dims', y, g1, g2, g3, g4⟩ := x
  refine (sappend_any y (by omega) (by omega) (by omega) (by omega) kind num A L cap bs p none 0 0 [] (hbs.below hb) hl hL (fun hne => y.aside (bat_block hbs hne)) (.inl rfl) rfl (fun h => absurd rfl h) (by omega)).mono ?_
  rintro e w2 ⟨he, hb', hz⟩
  exact ⟨he, hb.trans hb', hz.more (by omega) (by omega) (by omega) (by omega)⟩
def RotA (W : World) (s a r m : Nat) (iv : Value) (wr : World) : Prop := ∃ i : Nat, i ≤ m ∧ i ≤ 12 ∧ iv = .int .i64 (i : Int) ∧ Below W.heap.size W wr ∧ Stood W.heap.size wr s a r 200 (20 * i) (9 * i) i i
def RotB (W : World) (s h r : Nat) (used : List Pc) (bytes : List (List UInt8)) (at_ turn k : Nat) (iv : Value) (wr : World) : Prop := ∃ i : Nat, i + k = used.length ∧ iv = .int .i64 (i : Int) ∧ Below W.heap.size W wr ∧ Rotten W.heap.size wr s h r 200 used bytes at_ turn
set_option maxRecDepth 100000 in
set_option maxHeartbeats 16000000 in
theorem lawHotRotsA (AO : Option Addr) (m cap : Nat) (l : List (List UInt8)) (za zt zb : Int) (hza : inI za) (hzt : inI zt) (W : World) (ht : Tabs W.heap.size W) (ho : RowsAt W AO l) (hl : l.length = m) (hm : m ≤ 10000000) (hml : ∀ b ∈ l, b.length ≤ 140737488355327) (h12 : m ≤ 12) :
    Calls Tryd.prog 8 #[.slice AO m cap, .int .i64 za, .int .i64 zt, .int .i64 zb] W fun e W' => e = .returned (.bool true) ∧ Below W.heap.size W W' := by
  have HT := Lib.hid ht
  have HO := Lib.hid ho
  have HL := Lib.hid hl
  have HML := Lib.hid hml
  have HWA := Lib.hid (fun w : World => which_any w za 200 (by omega) (by omega) hza)
  have HWT := Lib.hid (fun w : World => which_any w zt 64 (by omega) (by omega) hzt)
  have hat := whichM_lt za (show 0 < 200 by omega)
  have htu := whichM_lt zt (show 0 < 64 by omega)
  clear ht ho hl hml
  obtain ⟨at_, hae⟩ : ∃ at_, whichM za 200 = at_ := ⟨_, rfl⟩
  obtain ⟨turn, hte⟩ : ∃ turn, whichM zt 64 = turn := ⟨_, rfl⟩
  rw [hae] at HWA hat
  rw [hte] at HWT htu
  clear hae hte
  go_enter Tryd.func8, Tryd.ntmps8
  go_wp2_with fail
  refine (shown_any _ HT.out).mono ?_
  rintro e w1 ⟨rfl, hb1⟩
  have HB1 := Lib.hid hb1
  clear hb1
  have HBG := Lib.hid (begun_stood w1 200 (by omega) (by omega) (HT.out.below HB1.out (Nat.le_refl _)) HB1.out.size)
  go_wp2_with fail
  refine HBG.out.mono ?_
  rintro e w2 ⟨s, a, r, rfl, hs, hb2⟩
  have HS := Lib.hid hs
  have HB2 := Lib.hid (HB1.out.trans (hb2.mono HB1.out.size))
  clear hs hb2 HBG HB1
  go_wp2_with fail
  go_loopw [11] (fun iv wr => RotA W s a r m iv wr) (fun iv _ => 12 - (intOf iv).toNat)
  case atStart => exact ⟨0, Nat.zero_le _, by omega, rfl, HB2.out, HS.out⟩
  case round =>
    obtain ⟨i, him, hi12, rfl, hb, hsr⟩ := hrel
    have HBR := Lib.hid hb
    have HSR := Lib.hid hsr
    clear hb hsr
    by_cases hlt : i < m ∧ i < 12
    · obtain ⟨hlt1, hlt2⟩ := hlt
      have hiI : (i : Int) < (m : Int) := by omega
      have hiJ : (i : Int) < 12 := by omega
      obtain ⟨b, hbo⟩ : ∃ b, l[i]? = some b := ⟨_, List.getElem?_eq_getElem (by rw [HL.out]; exact hlt1)⟩
      obtain ⟨ad, B, c, hA, hcell, hbat⟩ := HO.out i b hbo
      subst hA
      have x0 := (HBR.out.cell (cell_lt hcell)).trans hcell
      have HAP := Lib.hid (HSR.out.appendLow HBR.out (by omega) (by omega) (by omega) (by omega) 0 0 B b.length c b hbat rfl (HML.out b (List.mem_of_getElem? hbo)) ⟨0, 0, 0, false⟩)
      unfold opV at HAP
      clear hcell hbat hbo
      go_wp2_with fail
      refine HAP.out.mono ?_
      rintro e w3 ⟨rfl, hb3, hs3⟩
      have HB3 := Lib.hid hb3
      have HS3 := Lib.hid hs3
      clear hb3 hs3 HAP x0
      go_wp2_with fail
      go_roundw
      case rel => exact ⟨i + 1, by omega, by omega, by go_num, HB3.out, HS3.out.more (by omega) (by omega) (by omega) (by omega)⟩
      case measure => simp [intOf]; omega
    · obtain rfl : i = m := by omega
      have hiI : ¬ (i : Int) < (i : Int) := by omega
      have HWA0 := Lib.hid trivial
      obtain ⟨h, F, H, G, pm, m', Hs, segs, hsed, used, bytes, ever', dims', y, g1, g2, g3, g4⟩ := HSR.out
      have HRT := Lib.hid (y.rot (by omega) (by omega) hat htu zb)
      have c0 := y.c0.1
      have hls := y.blk.lt
      clear y g1 g2 g3 g4 HSR HWA0
      go_upto_region 14 with
        (refine (HWA.out _).mono ?_
         rintro e _ ⟨rfl, rfl⟩)
      go_upto_region 15 with
        (refine (HWT.out _).mono ?_
         rintro e _ ⟨rfl, rfl⟩)
      go_wp2_with fail
      refine HRT.out.mono ?_
      rintro e w5 ⟨v, rfl, hrt, hb5⟩
      have HR5 := Lib.hid hrt
      have HB5 := Lib.hid (HBR.out.trans hb5)
      clear hrt hb5 HRT c0 hls
      go_wp2_with fail
      go_loopg [13] used.length (fun k iv wr => RotB W s h r used bytes at_ turn k iv wr)
      case atStart => exact ⟨0, by omega, rfl, HB5.out, HR5.out⟩
      case round =>
        obtain ⟨i, hi, rfl, hb, hrr⟩ := hrel
        have HBR := Lib.hid hb
        have HRR := Lib.hid hrr
        have HGI := Lib.hid hi
        have hful := hrr.few
        obtain ⟨⟨a2, F2, H2, G2, pm2, m2, Ks, segs2, hsed2, ever2, dims2, ym, _⟩, _⟩ := hrr
        have c2 := (ym.blk.cell 2).trans (show _ = some (.pointer (some ⟨r, 0, none⟩)) from rfl)
        have hls := ym.blk.lt
        obtain ⟨U, V, vs, y⟩ := ym.ref
        have u2 := y.c2
        have hlr := y.blk.lt
        obtain ⟨AU, cU, hUe⟩ := y.uv.shape
        have heq := y.eq
        have HY := Lib.hid y
        clear hb hi y
        by_cases hlt3 : i < used.length
        · have hiI : (i : Int) < (used.length : Int) := by omega
          obtain ⟨u, hu⟩ : ∃ u, used[i]? = some u := ⟨_, List.getElem?_eq_getElem hlt3⟩
          obtain ⟨b, hbb⟩ : ∃ b, bytes[i]? = some b := ⟨_, List.getElem?_eq_getElem (by omega)⟩
          obtain ⟨g, c, hU, e0, e1, e2, e3⟩ := used_cells HY.out.uv hu
          rw [hU] at u2
          have e0 : wr.cell? ⟨g, i * 4, none⟩ = some (.int .i64 1) := e0
          have HU := Lib.hid hu
          have HBB := Lib.hid hbb
          have HEQ := Lib.hid heq
          clear hU hUe hu hbb ym heq
          go_upto_region 20 with fail
          have hba : Below wr.heap.size wr (wr.alloc (.cells #[.int .i64 1, .int .i64 (u.1 : Int), .int .i64 (u.2 : Int), .bool false] 36)) := below_al' _
          have HBA := Lib.hid (HBR.out.trans (hba.mono HBR.out.size))
          have HRA := Lib.hid (HRR.out.below hba)
          have hbk := Blk.new wr 36 #[.int .i64 1, .int .i64 (u.1 : Int), .int .i64 (u.2 : Int), .bool false]
          have HBK := Lib.hid hbk
          clear hba e0 e1 e2 e3 u2 c2 hls hlr
          generalize wr.alloc (.cells #[.int .i64 1, .int .i64 (u.1 : Int), .int .i64 (u.2 : Int), .bool false] 36) = wa at *
          generalize wr.heap.size = gX at *
          have p0 := (hbk.cell 0).trans (show _ = some (.int .i64 1) from rfl)
          have p1 := (hbk.cell 1).trans (show _ = some (.int .i64 (u.1 : Int)) from rfl)
          have p2 := (hbk.cell 2).trans (show _ = some (.int .i64 (u.2 : Int)) from rfl)
          have p3 := (hbk.cell 3).trans (show _ = some (.bool false) from rfl)
          have pl := hbk.lt
          have c1 : ∃ hh, wa.cell? ⟨s, 1, none⟩ = some (.pointer (some ⟨hh, 0, none⟩)) ∧ hh = h ∧ s < wa.heap.size := by
            obtain ⟨⟨a2, F2, H2, G2, pm2, m2, Ks, segs2, hsed2, ever2, dims2, ym, _⟩, _⟩ := HRA.out
            exact ⟨h, (ym.blk.cell 1).trans rfl, rfl, ym.blk.lt⟩
          obtain ⟨_, c1, rfl, hls⟩ := c1
          have HRD := Lib.hid (fun w' (hb : Below wa.heap.size wa w') => (HRA.out.below hb).read HU.out HBB.out false)
          clear hbk
          refine Ord.region_ord [] [0, 1, 2, 3, 4, 5, 6, 7, 8, 9, 10] (by kernel_rfl) (by kernel_rfl) (by kernel_rfl) (by kernel_rfl) (Ord.ord_all [_, _, _, _, _, _, _, _, _, _, _] rfl (by kernel_rfl) ?_)
          go_wp2_with fail
          refine (HRD.out _ (below_drewN (Below.refl _ _) 1)).mono ?_
          rintro e w6 ⟨A', mm, cap', code, bs, rfl, hba6, hln6, hb6, hcase⟩
          have hbe : Below wa.heap.size wa w6 := (below_drewN (Below.refl wa.heap.size wa) 1).trans hb6
          have HBT := Lib.hid hba6
          have HLN := Lib.hid hln6
          have HBE := Lib.hid (HBA.out.trans (hbe.mono HBA.out.size))
          have HRE := Lib.hid (HRA.out.below hbe)
          have HPE := Lib.hid (HBK.out.below_ hbe)
          have HC := Lib.hid hcase
          clear hba6 hln6 hb6 hbe hcase p0 p1 p2 p3 pl c1 hls HRD
          go_wp2_with fail
          refine Ord.nx_end ?_
          have hp1 := (HPE.out.cell 1).trans (show _ = some (.int .i64 (u.1 : Int)) from rfl)
          have hp2 := (HPE.out.cell 2).trans (show _ = some (.int .i64 (u.2 : Int)) from rfl)
          have hpl := HPE.out.lt
          have hu1 : (u.1 : Int) ≤ 100000 ∧ (u.2 : Int) ≤ 100 := by
            obtain ⟨⟨a2, F2, H2, G2, pm2, m2, Ks, segs2, hsed2, ever2, dims2, ym, hpp, _⟩, _⟩ := HRE.out
            have hok := ym.hot.ok.ok u (hpp.mem_iff.2 (List.mem_of_getElem? HU.out))
            have h1 := hok.2.2.1
            have h2 := hok.2.1
            rw [← ym.hot.size] at h1
            omega
          have hwu : IntKind.i64.wrap ((u.1 : Int) + (u.2 : Int)) = (u.1 : Int) + (u.2 : Int) := IntWalk.i64_in _ (by omega)
          have hbits : ∃ (c2 : Bool) (U5 : Value), True := ⟨true, .bool true, trivial⟩
          clear hbits
          obtain ⟨gU5, cr, hrb, hsl5⟩ : ∃ (gV : Nat) (Ab : Option Addr), (∃ (cb cV : Nat), w6.cell? ⟨s, 2, none⟩ = some (.pointer (some ⟨r, 0, none⟩)) ∧ w6.cell? ⟨r, 3, none⟩ = some (.slice (some ⟨gV, 0, none⟩) bytes.length cV) ∧ w6.cell? ⟨gV, i, none⟩ = some (.slice Ab b.length cb) ∧ BAt w6 Ab b) ∧ s < w6.heap.size ∧ r < w6.heap.size := by
            obtain ⟨⟨a2, F2, H2, G2, pm2, m2, Ks, segs2, hsed2, ever2, dims2, ym, _⟩, _⟩ := HRE.out
            obtain ⟨U5, V5, vs5, y5⟩ := ym.ref
            have u3 := y5.c3
            obtain ⟨v, hv, hby⟩ := y5.bv i b HBB.out
            obtain ⟨Ab, cb, rfl, hbat⟩ := hby.bat
            obtain ⟨AV, cV, rfl⟩ := y5.rows.shape
            obtain ⟨gV, hAV, hcv⟩ := y5.rows.cell i _ hv
            subst hAV
            exact ⟨gV, Ab, ⟨cb, cV, (ym.blk.cell 2).trans rfl, u3, hcv, hbat⟩, ym.blk.lt, y5.blk.lt⟩
          obtain ⟨cb, cV, c2, u3, hcv, hbat⟩ := hrb
          obtain ⟨hls, hlr⟩ := hsl5
          have hbl : (i : Int) < (bytes.length : Int) := by have := HEQ.out; omega
          have k1 := fun q => run_toString (P := Tryd.prog) (w := w6.drewN q) (ts := 9) Frame.byteTy strTy cap' (HBT.out.below (below_drewN (Below.refl _ _) q)) HLN.out
          have k2 := fun q => run_toString (P := Tryd.prog) (w := w6.drewN q) (ts := 9) Frame.byteTy strTy cb (hbat.below (below_drewN (Below.refl _ _) q)) rfl
          have k3 := run_toString (P := Tryd.prog) (w := w6) (ts := 9) Frame.byteTy strTy cap' HBT.out HLN.out
          have k4 := run_toString (P := Tryd.prog) (w := w6) (ts := 9) Frame.byteTy strTy cb hbat rfl
          clear hbat
          rcases HC.out with ⟨rfl, hbe⟩ | ⟨⟨h1, h2⟩, ⟨rfl, hm0⟩ | ⟨⟨h3, h4⟩, rfl, hmm⟩⟩
          · subst hbe
            generalize (⟨bs.toArray⟩ : ByteArray) = S at k1 k2 k3 k4
            clear HC
            by_cases h1 : (u.1 : Int) ≤ (at_ : Int)
            · by_cases h3 : (u.1 : Int) = (at_ : Int)
              · go_wp2_with fail
                go_quiet (fail)
                clear k1 k2 k3 k4 c2 u3 hcv
                go_wp2_with fail
                go_roundg (gk - 1)
                case measure => have := HGI.out; omega
                case rel => exact ⟨i + 1, by have := HGI.out; omega, by go_num, HBE.out.trans (below_drewN (Below.refl _ _) nq |>.mono HBE.out.size), HRE.out.below (below_drewN (Below.refl _ _) nq)⟩
              · have h3n : ¬ (at_ : Int) = (u.1 : Int) := fun e => h3 e.symm
                go_wp2_with fail
                go_quiet (fail)
                clear k1 k2 k3 k4 c2 u3 hcv
                go_wp2_with fail
                go_roundg (gk - 1)
                case measure => have := HGI.out; omega
                case rel => exact ⟨i + 1, by have := HGI.out; omega, by go_num, HBE.out.trans (below_drewN (Below.refl _ _) nq |>.mono HBE.out.size), HRE.out.below (below_drewN (Below.refl _ _) nq)⟩
            · have h3n : ¬ (at_ : Int) = (u.1 : Int) := by omega
              go_wp2_with fail
              go_quiet (fail)
              clear k1 k2 k3 k4 c2 u3 hcv
              go_wp2_with fail
              go_roundg (gk - 1)
              case measure => have := HGI.out; omega
              case rel => exact ⟨i + 1, by have := HGI.out; omega, by go_num, HBE.out.trans (below_drewN (Below.refl _ _) nq |>.mono HBE.out.size), HRE.out.below (below_drewN (Below.refl _ _) nq)⟩
          · subst hm0
            clear HC
            have h1I : (u.1 : Int) ≤ (at_ : Int) := by omega
            have h2I : (at_ : Int) < (u.1 : Int) + (u.2 : Int) := by omega
            by_cases h3 : (u.1 : Int) = (at_ : Int)
            · go_wp2_with fail
              go_quiet (fail)
              clear k1 k2 k3 k4 c2 u3 hcv
              go_wp2_with fail
              go_roundg (gk - 1)
              case measure => have := HGI.out; omega
              case rel => exact ⟨i + 1, by have := HGI.out; omega, by go_num, HBE.out.trans (below_drewN (Below.refl _ _) nq |>.mono HBE.out.size), HRE.out.below (below_drewN (Below.refl _ _) nq)⟩
            · have h3n : ¬ (at_ : Int) = (u.1 : Int) := fun e => h3 e.symm
              go_wp2_with fail
              go_quiet (fail)
              clear k1 k2 k3 k4 c2 u3 hcv
              go_wp2_with fail
              go_roundg (gk - 1)
              case measure => have := HGI.out; omega
              case rel => exact ⟨i + 1, by have := HGI.out; omega, by go_num, HBE.out.trans (below_drewN (Below.refl _ _) nq |>.mono HBE.out.size), HRE.out.below (below_drewN (Below.refl _ _) nq)⟩
          · generalize (⟨bs.toArray⟩ : ByteArray) = S1 at k1 k3
            generalize (⟨b.toArray⟩ : ByteArray) = S2 at k2 k4
            clear HC
            have h2I : (at_ : Int) < (u.1 : Int) + (u.2 : Int) := by omega
            have h3I : (u.1 : Int) = (at_ : Int) := by omega
            have h4I : (turn : Int) < 4 := by omega
            have hmI : (mm : Int) ≤ 512 := by omega
            clear h1 h2 h3 h4 hmm
            cases hsm : (S1.toList == S2.toList) with
            | true =>
              go_wp2_with fail
              go_quiet (fail)
              clear k1 k2 k3 k4 c2 u3 hcv
              go_wp2_with fail
              go_roundg (gk - 1)
              case measure => have := HGI.out; omega
              case rel => exact ⟨i + 1, by have := HGI.out; omega, by go_num, HBE.out.trans (below_drewN (Below.refl _ _) nq |>.mono HBE.out.size), HRE.out.below (below_drewN (Below.refl _ _) nq)⟩
            | false =>
              go_wp2_with fail
              go_quiet (fail)
              clear k1 k2 k3 k4 c2 u3 hcv
              go_wp2_with fail
              go_roundg (gk - 1)
              case measure => have := HGI.out; omega
              case rel => exact ⟨i + 1, by have := HGI.out; omega, by go_num, HBE.out.trans (below_drewN (Below.refl _ _) nq |>.mono HBE.out.size), HRE.out.below (below_drewN (Below.refl _ _) nq)⟩
        · obtain rfl : i = used.length := by have := HGI.out; omega
          have hiI : ¬ ((used.length : Nat) : Int) < (used.length : Int) := by omega
          rw [hUe] at u2
          clear hUe ym heq
          go_wp2_with fail
          go_ret
          exact ⟨rfl, HBR.out⟩
set_option maxRecDepth 100000 in
set_option maxHeartbeats 16000000 in
theorem lawHotRotsB (AO : Option Addr) (m cap : Nat) (l : List (List UInt8)) (za zt zb : Int) (hza : inI za) (hzt : inI zt) (W : World) (ht : Tabs W.heap.size W) (ho : RowsAt W AO l) (hl : l.length = m) (hm : m ≤ 10000000) (hml : ∀ b ∈ l, b.length ≤ 140737488355327) (h12 : 12 < m) :
    Calls Tryd.prog 8 #[.slice AO m cap, .int .i64 za, .int .i64 zt, .int .i64 zb] W fun e W' => e = .returned (.bool true) ∧ Below W.heap.size W W' := by
  have HT := Lib.hid ht
  have HO := Lib.hid ho
  have HL := Lib.hid hl
  have HML := Lib.hid hml
  have HWA := Lib.hid (fun w : World => which_any w za 200 (by omega) (by omega) hza)
  have HWT := Lib.hid (fun w : World => which_any w zt 64 (by omega) (by omega) hzt)
  have hat := whichM_lt za (show 0 < 200 by omega)
  have htu := whichM_lt zt (show 0 < 64 by omega)
  clear ht ho hl hml
  obtain ⟨at_, hae⟩ : ∃ at_, whichM za 200 = at_ := ⟨_, rfl⟩
  obtain ⟨turn, hte⟩ : ∃ turn, whichM zt 64 = turn := ⟨_, rfl⟩
  rw [hae] at HWA hat
  rw [hte] at HWT htu
  clear hae hte
  go_enter Tryd.func8, Tryd.ntmps8
  go_wp2_with fail
  refine (shown_any _ HT.out).mono ?_
  rintro e w1 ⟨rfl, hb1⟩
  have HB1 := Lib.hid hb1
  clear hb1
  have HBG := Lib.hid (begun_stood w1 200 (by omega) (by omega) (HT.out.below HB1.out (Nat.le_refl _)) HB1.out.size)
  go_wp2_with fail
  refine HBG.out.mono ?_
  rintro e w2 ⟨s, a, r, rfl, hs, hb2⟩
  have HS := Lib.hid hs
  have HB2 := Lib.hid (HB1.out.trans (hb2.mono HB1.out.size))
  clear hs hb2 HBG HB1
  go_wp2_with fail
  go_loopw [11] (fun iv wr => RotA W s a r m iv wr) (fun iv _ => 12 - (intOf iv).toNat)
  case atStart => exact ⟨0, Nat.zero_le _, by omega, rfl, HB2.out, HS.out⟩
  case round =>
    obtain ⟨i, him, hi12, rfl, hb, hsr⟩ := hrel
    have HBR := Lib.hid hb
    have HSR := Lib.hid hsr
    clear hb hsr
    by_cases hlt : i < m ∧ i < 12
    · obtain ⟨hlt1, hlt2⟩ := hlt
      have hiI : (i : Int) < (m : Int) := by omega
      have hiJ : (i : Int) < 12 := by omega
      obtain ⟨b, hbo⟩ : ∃ b, l[i]? = some b := ⟨_, List.getElem?_eq_getElem (by rw [HL.out]; exact hlt1)⟩
      obtain ⟨ad, B, c, hA, hcell, hbat⟩ := HO.out i b hbo
      subst hA
      have x0 := (HBR.out.cell (cell_lt hcell)).trans hcell
      have HAP := Lib.hid (HSR.out.appendLow HBR.out (by omega) (by omega) (by omega) (by omega) 0 0 B b.length c b hbat rfl (HML.out b (List.mem_of_getElem? hbo)) ⟨0, 0, 0, false⟩)
      unfold opV at HAP
      clear hcell hbat hbo
      go_wp2_with fail
      refine HAP.out.mono ?_
      rintro e w3 ⟨rfl, hb3, hs3⟩
      have HB3 := Lib.hid hb3
      have HS3 := Lib.hid hs3
      clear hb3 hs3 HAP x0
      go_wp2_with fail
      go_roundw
      case rel => exact ⟨i + 1, by omega, by omega, by go_num, HB3.out, HS3.out.more (by omega) (by omega) (by omega) (by omega)⟩
      case measure => simp [intOf]; omega
    · obtain rfl : i = 12 := by omega
      have hiI : ((12 : Nat) : Int) < (m : Int) := by omega
      have hiJ : ¬ ((12 : Nat) : Int) < 12 := by omega
      have HWA0 := Lib.hid trivial
      obtain ⟨h, F, H, G, pm, m', Hs, segs, hsed, used, bytes, ever', dims', y, g1, g2, g3, g4⟩ := HSR.out
      have HRT := Lib.hid (y.rot (by omega) (by omega) hat htu zb)
      have c0 := y.c0.1
      have hls := y.blk.lt
      clear y g1 g2 g3 g4 HSR HWA0
      go_upto_region 14 with
        (refine (HWA.out _).mono ?_
         rintro e _ ⟨rfl, rfl⟩)
      go_upto_region 15 with
        (refine (HWT.out _).mono ?_
         rintro e _ ⟨rfl, rfl⟩)
      go_wp2_with fail
      refine HRT.out.mono ?_
      rintro e w5 ⟨v, rfl, hrt, hb5⟩
      have HR5 := Lib.hid hrt
      have HB5 := Lib.hid (HBR.out.trans hb5)
      clear hrt hb5 HRT c0 hls
      go_wp2_with fail
      go_loopg [13] used.length (fun k iv wr => RotB W s h r used bytes at_ turn k iv wr)
      case atStart => exact ⟨0, by omega, rfl, HB5.out, HR5.out⟩
      case round =>
        obtain ⟨i, hi, rfl, hb, hrr⟩ := hrel
        have HBR := Lib.hid hb
        have HRR := Lib.hid hrr
        have HGI := Lib.hid hi
        have hful := hrr.few
        obtain ⟨⟨a2, F2, H2, G2, pm2, m2, Ks, segs2, hsed2, ever2, dims2, ym, _⟩, _⟩ := hrr
        have c2 := (ym.blk.cell 2).trans (show _ = some (.pointer (some ⟨r, 0, none⟩)) from rfl)
        have hls := ym.blk.lt
        obtain ⟨U, V, vs, y⟩ := ym.ref
        have u2 := y.c2
        have hlr := y.blk.lt
        obtain ⟨AU, cU, hUe⟩ := y.uv.shape
        have heq := y.eq
        have HY := Lib.hid y
        clear hb hi y
        by_cases hlt3 : i < used.length
        · have hiI : (i : Int) < (used.length : Int) := by omega
          obtain ⟨u, hu⟩ : ∃ u, used[i]? = some u := ⟨_, List.getElem?_eq_getElem hlt3⟩
          obtain ⟨b, hbb⟩ : ∃ b, bytes[i]? = some b := ⟨_, List.getElem?_eq_getElem (by omega)⟩
          obtain ⟨g, c, hU, e0, e1, e2, e3⟩ := used_cells HY.out.uv hu
          rw [hU] at u2
          have e0 : wr.cell? ⟨g, i * 4, none⟩ = some (.int .i64 1) := e0
          have HU := Lib.hid hu
          have HBB := Lib.hid hbb
          have HEQ := Lib.hid heq
          clear hU hUe hu hbb ym heq
          go_upto_region 20 with fail
          have hba : Below wr.heap.size wr (wr.alloc (.cells #[.int .i64 1, .int .i64 (u.1 : Int), .int .i64 (u.2 : Int), .bool false] 36)) := below_al' _
          have HBA := Lib.hid (HBR.out.trans (hba.mono HBR.out.size))
          have HRA := Lib.hid (HRR.out.below hba)
          have hbk := Blk.new wr 36 #[.int .i64 1, .int .i64 (u.1 : Int), .int .i64 (u.2 : Int), .bool false]
          have HBK := Lib.hid hbk
          clear hba e0 e1 e2 e3 u2 c2 hls hlr
          generalize wr.alloc (.cells #[.int .i64 1, .int .i64 (u.1 : Int), .int .i64 (u.2 : Int), .bool false] 36) = wa at *
          generalize wr.heap.size = gX at *
          have p0 := (hbk.cell 0).trans (show _ = some (.int .i64 1) from rfl)
          have p1 := (hbk.cell 1).trans (show _ = some (.int .i64 (u.1 : Int)) from rfl)
          have p2 := (hbk.cell 2).trans (show _ = some (.int .i64 (u.2 : Int)) from rfl)
          have p3 := (hbk.cell 3).trans (show _ = some (.bool false) from rfl)
          have pl := hbk.lt
          have c1 : ∃ hh, wa.cell? ⟨s, 1, none⟩ = some (.pointer (some ⟨hh, 0, none⟩)) ∧ hh = h ∧ s < wa.heap.size := by
            obtain ⟨⟨a2, F2, H2, G2, pm2, m2, Ks, segs2, hsed2, ever2, dims2, ym, _⟩, _⟩ := HRA.out
            exact ⟨h, (ym.blk.cell 1).trans rfl, rfl, ym.blk.lt⟩
          obtain ⟨_, c1, rfl, hls⟩ := c1
          have HRD := Lib.hid (fun w' (hb : Below wa.heap.size wa w') => (HRA.out.below hb).read HU.out HBB.out false)
          clear hbk
          refine Ord.region_ord [] [0, 1, 2, 3, 4, 5, 6, 7, 8, 9, 10] (by kernel_rfl) (by kernel_rfl) (by kernel_rfl) (by kernel_rfl) (Ord.ord_all [_, _, _, _, _, _, _, _, _, _, _] rfl (by kernel_rfl) ?_)
          go_wp2_with fail
          refine (HRD.out _ (below_drewN (Below.refl _ _) 1)).mono ?_
          rintro e w6 ⟨A', mm, cap', code, bs, rfl, hba6, hln6, hb6, hcase⟩
          have hbe : Below wa.heap.size wa w6 := (below_drewN (Below.refl wa.heap.size wa) 1).trans hb6
          have HBT := Lib.hid hba6
          have HLN := Lib.hid hln6
          have HBE := Lib.hid (HBA.out.trans (hbe.mono HBA.out.size))
          have HRE := Lib.hid (HRA.out.below hbe)
          have HPE := Lib.hid (HBK.out.below_ hbe)
          have HC := Lib.hid hcase
          clear hba6 hln6 hb6 hbe hcase p0 p1 p2 p3 pl c1 hls HRD
          go_wp2_with fail
          refine Ord.nx_end ?_
          have hp1 := (HPE.out.cell 1).trans (show _ = some (.int .i64 (u.1 : Int)) from rfl)
          have hp2 := (HPE.out.cell 2).trans (show _ = some (.int .i64 (u.2 : Int)) from rfl)
          have hpl := HPE.out.lt
          have hu1 : (u.1 : Int) ≤ 100000 ∧ (u.2 : Int) ≤ 100 := by
            obtain ⟨⟨a2, F2, H2, G2, pm2, m2, Ks, segs2, hsed2, ever2, dims2, ym, hpp, _⟩, _⟩ := HRE.out
            have hok := ym.hot.ok.ok u (hpp.mem_iff.2 (List.mem_of_getElem? HU.out))
            have h1 := hok.2.2.1
            have h2 := hok.2.1
            rw [← ym.hot.size] at h1
            omega
          have hwu : IntKind.i64.wrap ((u.1 : Int) + (u.2 : Int)) = (u.1 : Int) + (u.2 : Int) := IntWalk.i64_in _ (by omega)
          have hbits : ∃ (c2 : Bool) (U5 : Value), True := ⟨true, .bool true, trivial⟩
          clear hbits
          obtain ⟨gU5, cr, hrb, hsl5⟩ : ∃ (gV : Nat) (Ab : Option Addr), (∃ (cb cV : Nat), w6.cell? ⟨s, 2, none⟩ = some (.pointer (some ⟨r, 0, none⟩)) ∧ w6.cell? ⟨r, 3, none⟩ = some (.slice (some ⟨gV, 0, none⟩) bytes.length cV) ∧ w6.cell? ⟨gV, i, none⟩ = some (.slice Ab b.length cb) ∧ BAt w6 Ab b) ∧ s < w6.heap.size ∧ r < w6.heap.size := by
            obtain ⟨⟨a2, F2, H2, G2, pm2, m2, Ks, segs2, hsed2, ever2, dims2, ym, _⟩, _⟩ := HRE.out
            obtain ⟨U5, V5, vs5, y5⟩ := ym.ref
            have u3 := y5.c3
            obtain ⟨v, hv, hby⟩ := y5.bv i b HBB.out
            obtain ⟨Ab, cb, rfl, hbat⟩ := hby.bat
            obtain ⟨AV, cV, rfl⟩ := y5.rows.shape
            obtain ⟨gV, hAV, hcv⟩ := y5.rows.cell i _ hv
            subst hAV
            exact ⟨gV, Ab, ⟨cb, cV, (ym.blk.cell 2).trans rfl, u3, hcv, hbat⟩, ym.blk.lt, y5.blk.lt⟩
          obtain ⟨cb, cV, c2, u3, hcv, hbat⟩ := hrb
          obtain ⟨hls, hlr⟩ := hsl5
          have hbl : (i : Int) < (bytes.length : Int) := by have := HEQ.out; omega
          have k1 := fun q => run_toString (P := Tryd.prog) (w := w6.drewN q) (ts := 9) Frame.byteTy strTy cap' (HBT.out.below (below_drewN (Below.refl _ _) q)) HLN.out
          have k2 := fun q => run_toString (P := Tryd.prog) (w := w6.drewN q) (ts := 9) Frame.byteTy strTy cb (hbat.below (below_drewN (Below.refl _ _) q)) rfl
          have k3 := run_toString (P := Tryd.prog) (w := w6) (ts := 9) Frame.byteTy strTy cap' HBT.out HLN.out
          have k4 := run_toString (P := Tryd.prog) (w := w6) (ts := 9) Frame.byteTy strTy cb hbat rfl
          clear hbat
          rcases HC.out with ⟨rfl, hbe⟩ | ⟨⟨h1, h2⟩, ⟨rfl, hm0⟩ | ⟨⟨h3, h4⟩, rfl, hmm⟩⟩
          · subst hbe
            generalize (⟨bs.toArray⟩ : ByteArray) = S at k1 k2 k3 k4
            clear HC
            by_cases h1 : (u.1 : Int) ≤ (at_ : Int)
            · by_cases h3 : (u.1 : Int) = (at_ : Int)
              · go_wp2_with fail
                go_quiet (fail)
                clear k1 k2 k3 k4 c2 u3 hcv
                go_wp2_with fail
                go_roundg (gk - 1)
                case measure => have := HGI.out; omega
                case rel => exact ⟨i + 1, by have := HGI.out; omega, by go_num, HBE.out.trans (below_drewN (Below.refl _ _) nq |>.mono HBE.out.size), HRE.out.below (below_drewN (Below.refl _ _) nq)⟩
              · have h3n : ¬ (at_ : Int) = (u.1 : Int) := fun e => h3 e.symm
                go_wp2_with fail
                go_quiet (fail)
                clear k1 k2 k3 k4 c2 u3 hcv
                go_wp2_with fail
                go_roundg (gk - 1)
                case measure => have := HGI.out; omega
                case rel => exact ⟨i + 1, by have := HGI.out; omega, by go_num, HBE.out.trans (below_drewN (Below.refl _ _) nq |>.mono HBE.out.size), HRE.out.below (below_drewN (Below.refl _ _) nq)⟩
            · have h3n : ¬ (at_ : Int) = (u.1 : Int) := by omega
              go_wp2_with fail
              go_quiet (fail)
              clear k1 k2 k3 k4 c2 u3 hcv
              go_wp2_with fail
              go_roundg (gk - 1)
              case measure => have := HGI.out; omega
              case rel => exact ⟨i + 1, by have := HGI.out; omega, by go_num, HBE.out.trans (below_drewN (Below.refl _ _) nq |>.mono HBE.out.size), HRE.out.below (below_drewN (Below.refl _ _) nq)⟩
          · subst hm0
            clear HC
            have h1I : (u.1 : Int) ≤ (at_ : Int) := by omega
            have h2I : (at_ : Int) < (u.1 : Int) + (u.2 : Int) := by omega
            by_cases h3 : (u.1 : Int) = (at_ : Int)
            · go_wp2_with fail
              go_quiet (fail)
              clear k1 k2 k3 k4 c2 u3 hcv
              go_wp2_with fail
              go_roundg (gk - 1)
              case measure => have := HGI.out; omega
              case rel => exact ⟨i + 1, by have := HGI.out; omega, by go_num, HBE.out.trans (below_drewN (Below.refl _ _) nq |>.mono HBE.out.size), HRE.out.below (below_drewN (Below.refl _ _) nq)⟩
            · have h3n : ¬ (at_ : Int) = (u.1 : Int) := fun e => h3 e.symm
              go_wp2_with fail
              go_quiet (fail)
              clear k1 k2 k3 k4 c2 u3 hcv
              go_wp2_with fail
              go_roundg (gk - 1)
              case measure => have := HGI.out; omega
              case rel => exact ⟨i + 1, by have := HGI.out; omega, by go_num, HBE.out.trans (below_drewN (Below.refl _ _) nq |>.mono HBE.out.size), HRE.out.below (below_drewN (Below.refl _ _) nq)⟩
          · generalize (⟨bs.toArray⟩ : ByteArray) = S1 at k1 k3
            generalize (⟨b.toArray⟩ : ByteArray) = S2 at k2 k4
            clear HC
            have h2I : (at_ : Int) < (u.1 : Int) + (u.2 : Int) := by omega
            have h3I : (u.1 : Int) = (at_ : Int) := by omega
            have h4I : (turn : Int) < 4 := by omega
            have hmI : (mm : Int) ≤ 512 := by omega
            clear h1 h2 h3 h4 hmm
            cases hsm : (S1.toList == S2.toList) with
            | true =>
              go_wp2_with fail
              go_quiet (fail)
              clear k1 k2 k3 k4 c2 u3 hcv
              go_wp2_with fail
              go_roundg (gk - 1)
              case measure => have := HGI.out; omega
              case rel => exact ⟨i + 1, by have := HGI.out; omega, by go_num, HBE.out.trans (below_drewN (Below.refl _ _) nq |>.mono HBE.out.size), HRE.out.below (below_drewN (Below.refl _ _) nq)⟩
            | false =>
              go_wp2_with fail
              go_quiet (fail)
              clear k1 k2 k3 k4 c2 u3 hcv
              go_wp2_with fail
              go_roundg (gk - 1)
              case measure => have := HGI.out; omega
              case rel => exact ⟨i + 1, by have := HGI.out; omega, by go_num, HBE.out.trans (below_drewN (Below.refl _ _) nq |>.mono HBE.out.size), HRE.out.below (below_drewN (Below.refl _ _) nq)⟩
        · obtain rfl : i = used.length := by have := HGI.out; omega
          have hiI : ¬ ((used.length : Nat) : Int) < (used.length : Int) := by omega
          rw [hUe] at u2
          clear hUe ym heq
          go_wp2_with fail
          go_ret
          exact ⟨rfl, HBR.out⟩
theorem lawHotRots (AO : Option Addr) (m cap : Nat) (l : List (List UInt8)) (za zt zb : Int) (hza : inI za) (hzt : inI zt) (W : World) (ht : Tabs W.heap.size W) (ho : RowsAt W AO l) (hl : l.length = m) (hm : m ≤ 10000000) (hml : ∀ b ∈ l, b.length ≤ 140737488355327) :
    Calls Tryd.prog 8 #[.slice AO m cap, .int .i64 za, .int .i64 zt, .int .i64 zb] W fun e W' => e = .returned (.bool true) ∧ Below W.heap.size W W' := by
  rcases Nat.lt_or_ge 12 m with h | h
  · exact lawHotRotsB AO m cap l za zt zb hza hzt W ht ho hl hm hml h
  · exact lawHotRotsA AO m cap l za zt zb hza hzt W ht ho hl hm hml h
end Go.Proofs.YtgcckfaljfkkhaaDoor.Hot
