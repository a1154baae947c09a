/- The law's 'which' and 'made'. -/
import Derived.Test.YtgcckfaljfkkhaaDoorHotROpen
import Derived.Test.YtgcckfaljfkkhaaDoorPlNew
import Derived.Test.YtgcckfaljfkkhaaDoorFold12
namespace Go.Proofs.YtgcckfaljfkkhaaDoor.Hot
open Go Go.RowKit Mem Pl Disk
/-- Which of so many things. -/
def whichM (c : Int) (n : Nat) : Nat := ((if c < 0 then -(c + 1) else c) % (n : Int)).toNat
theorem whichM_lt (c : Int) {n : Nat} (h : 0 < n) : whichM c n < n := by
  unfold whichM
  have := Int.emod_nonneg (if c < 0 then -(c + 1) else c) (show (n : Int) ≠ 0 by omega)
  have := Int.emod_lt_of_pos (if c < 0 then -(c + 1) else c) (show (0 : Int) < n by omega)
  omega
theorem which_any (w : World) (c : Int) (n : Nat) (hn : 0 < n) (hn2 : n ≤ 1000000000) (hc : inI c) : Calls Tryd.prog 10 #[.int .i64 c, .int .i64 (n : Int)] w fun e w' => e = .returned (.int .i64 (whichM c n : Int)) ∧ w = w' := by
  obtain ⟨h1, h2⟩ := hc
  have hnz : ¬ (n : Int) = 0 := by omega
  have hnb : ((n : Int) == 0) = false := by rw [beq_eq_false_iff_ne]; exact hnz
  by_cases hneg : c < 0
  · have hw1 : IntKind.i64.wrap (c + 1) = c + 1 := IntWalk.i64_in _ (by omega)
    have hw2 : IntKind.i64.wrap (-(c + 1)) = -(c + 1) := IntWalk.i64_in _ (by omega)
    have ht : (-(c + 1)).tmod (n : Int) = (whichM c n : Int) := by
      rw [Int.tmod_eq_emod_of_nonneg (by omega)]
      unfold whichM
      rw [if_pos hneg, Int.toNat_of_nonneg (Int.emod_nonneg _ hnz)]
    have hlt : (whichM c n : Int) < 9223372036854775808 := by have := whichM_lt c hn; omega
    have hw3 : IntKind.i64.wrap (whichM c n : Int) = (whichM c n : Int) := IntWalk.i64_in _ (by omega)
    generalize whichM c n = r at *
    go_enter Tryd.func10, Tryd.ntmps10
    go_wp2_with fail
    go_ret
    exact ⟨rfl, rfl⟩
  · have ht : c.tmod (n : Int) = (whichM c n : Int) := by
      rw [Int.tmod_eq_emod_of_nonneg (by omega)]
      unfold whichM
      rw [if_neg hneg, Int.toNat_of_nonneg (Int.emod_nonneg _ hnz)]
    have hlt : (whichM c n : Int) < 9223372036854775808 := by have := whichM_lt c hn; omega
    have hw3 : IntKind.i64.wrap (whichM c n : Int) = (whichM c n : Int) := IntWalk.i64_in _ (by omega)
    generalize whichM c n = r at *
    go_enter Tryd.func10, Tryd.ntmps10
    go_wp2_with fail
    go_ret
    exact ⟨rfl, rfl⟩
theorem iat_row (w : World) (zs : List Int) (k : Nat) (hk : w.heap.size = k) (t : TypeId) : IAt (w.alloc (.cells (zs.map intV).toArray t)) (some ⟨k, 0, none⟩) zs := by
  subst hk
  refine .inr ⟨_, rfl, fun i z hz => ?_⟩
  have := (Blk.new w t (zs.map intV).toArray).cell i
  have e : (Addr.add ⟨w.heap.size, 0, none⟩ i) = ⟨w.heap.size, i, none⟩ := by
    unfold Addr.add
    split
    · rename_i h; subst h; rfl
    · simp
  rw [e, this]
  simp [hz, intV]
/-- The plant that is made. -/
def hotPM (n : Nat) : PM := { disks := [1, n], tapes := [9], devs := newDevs [1, n] [9], waits := [], off := false, fuse := none, steps := 0, now := 0 }
theorem hotPM_new {n : Nat} (h1 : 1 ≤ n) (h2 : n ≤ 4096) : newM [1, (n : Int)] [9] = some (hotPM n) := by
  unfold newM hotPM
  have a1 : ¬ ((n : Int) < 1) := by omega
  have a2 : ¬ (4096 < (n : Int)) := by omega
  simp [a1, a2]
theorem hotPM_ok {n : Nat} (h1 : 1 ≤ n) (h2 : n ≤ 4096) : (hotPM n).Ok ∧ (hotPM n).Low := by
  obtain ⟨a, b, _⟩ := newM_ok (hotPM_new h1 h2)
  exact ⟨a, b⟩
theorem hotPM_disk (n : Nat) : Disk (hotPM n) 1 n (List.replicate n zeros) [] := by
  refine ⟨?_, rfl⟩
  have := newDevs_get (zs1 := [1, (n : Int)]) (zs2 := [9]) (k := 1) (z := (n : Int)) rfl
  simpa [hotPM, devOf] using this
set_option maxRecDepth 100000 in
theorem made_any (w : World) (n : Nat) (h1 : 1 ≤ n) (h2 : n ≤ 4096) : Calls Tryd.prog 11 #[.int .i64 (n : Int)] w fun e w' => ∃ a, e = .returned (.pointer (some ⟨a, 0, none⟩)) ∧ PlantAt w' (New w w') a (hotPM n) ∧ Below w.heap.size w w' := by
  have hn := new_any ((w.alloc (.cells #[.int .i64 1, .int .i64 (n : Int)] 3)).alloc (.cells #[.int .i64 9] 3)) (some ⟨w.heap.size, 0, none⟩) (some ⟨w.heap.size + 1, 0, none⟩) 2 1 2 1 [1, (n : Int)] [9] ((iat_row w [1, (n : Int)] _ rfl _).below (below_al' _)) (iat_row _ [9] _ (by simp) _) rfl rfl (by omega) (by omega)
  rw [hotPM_new h1 h2] at hn
  have HN := Lib.hid hn
  have hbA : Below w.heap.size w ((w.alloc (.cells #[.int .i64 1, .int .i64 (n : Int)] 3)).alloc (.cells #[.int .i64 9] 3)) := (below_al' _).alloc (by simp) _
  have HBA := Lib.hid hbA
  clear hn hbA
  go_enter Tryd.func11, Tryd.ntmps11
  go_wp2_with fail
  refine HN.out.mono ?_
  rintro e w1 ⟨hb1, ⟨h, _⟩ | ⟨a, p, h, rfl, hp⟩⟩
  · cases h
  injection h with h
  subst h
  have HP := Lib.hid hp
  have HB1 := Lib.hid hb1
  clear hp hb1
  go_wp2_with fail
  go_ret
  exact ⟨a, rfl, HP.out.mono fun g hlt hg => ⟨by have := HBA.out.size; have := hg.1; omega, hlt⟩, HBA.out.trans (HB1.out.mono HBA.out.size)⟩
end Go.Proofs.YtgcckfaljfkkhaaDoor.Hot
/- Room on the hot disk: what was ever taken in a segment; what does not fit has filled half of each. No program. -/
namespace Go.Proofs.YtgcckfaljfkkhaaDoor.Hot
open Go Go.RowKit Mem Pl Disk
def sumTo (E : Nat → Nat) : Nat → Nat
  | 0 => 0
  | k + 1 => sumTo E k + E k
theorem sumTo_bump (E : Nat → Nat) (s c : Nat) : ∀ k, sumTo (fun i => if i = s then E i + c else E i) k ≤ sumTo E k + c
  | 0 => by simp [sumTo]
  | k + 1 => by
    by_cases h : k = s
    · subst h
      have hlow : ∀ j, j ≤ k → sumTo (fun i => if i = k then E i + c else E i) j = sumTo E j := by
        intro j
        induction j with
        | zero => intro _; rfl
        | succ j ih => intro hj; simp only [sumTo]; rw [ih (by omega), if_neg (by omega)]
      simp only [sumTo]
      rw [hlow k (Nat.le_refl _)]
      simp only [if_true]
      omega
    · have := sumTo_bump E s c k
      simp only [sumTo]
      rw [if_neg h]
      omega
theorem sumTo_ge (E : Nat → Nat) (c : Nat) : ∀ k, (∀ i, i < k → c ≤ E i) → c * k ≤ sumTo E k
  | 0, _ => by simp [sumTo]
  | k + 1, h => by
    have h1 := sumTo_ge E c k fun i hi => h i (by omega)
    have h2 := h k (by omega)
    simp only [sumTo]
    rw [Nat.mul_succ]
    omega
/-- So much was ever laid into each segment; no more than this together. -/
def Room (nseg ever : Nat) (used : List Pc) : Prop := ∃ E : Nat → Nat, sumTo E nseg ≤ ever ∧ ∀ u ∈ used, u.1 % 16 + u.2 ≤ E (u.1 / 16)
theorem Room.nil (nseg : Nat) : Room nseg 0 [] := ⟨fun _ => 0, by
  have : ∀ k, sumTo (fun _ => 0) k = 0 := by intro k; induction k with | zero => rfl | succ k ih => simp [sumTo, ih]
  rw [this]; exact Nat.le_refl _, fun u hu => absurd hu (by simp)⟩
theorem Room.more {nseg ever ever' : Nat} {used : List Pc} (h : Room nseg ever used) (he : ever ≤ ever') : Room nseg ever' used := by
  obtain ⟨E, h1, h2⟩ := h
  exact ⟨E, Nat.le_trans h1 he, h2⟩
theorem Room.fewer {nseg ever : Nat} {used vsed : List Pc} (h : Room nseg ever used) (hv : ∀ u ∈ vsed, u ∈ used) : Room nseg ever vsed := by
  obtain ⟨E, h1, h2⟩ := h
  exact ⟨E, h1, fun u hu => h2 u (hv u hu)⟩
/-- Above what was ever laid into a segment all is free. -/
theorem free_above {nseg c s : Nat} {used : List Pc} {E : Nat → Nat} (hok : ∀ u ∈ used, okP nseg u) (h2 : ∀ u ∈ used, u.1 % 16 + u.2 ≤ E (u.1 / 16)) (hc : 1 ≤ c) (hs : s < nseg) (he : E s + c ≤ 16) : Free1 used nseg c (16 * s + E s) := by
  have hd : (16 * s + E s) / 16 = s := by omega
  have hm : (16 * s + E s) % 16 = E s := by omega
  refine ⟨⟨by show 1 ≤ c; omega, by show c ≤ 16; omega, by show (16 * s + E s) / 16 < nseg; omega, by show (16 * s + E s) % 16 + c ≤ 16; omega⟩, fun q hq1 hq2 ⟨u, hu, hu1, hu2⟩ => ?_⟩
  have h3 := h2 u hu
  have h4 := (hok u hu).2.2.2
  have hq : q / 16 = s := by omega
  have hus : u.1 / 16 = s := by omega
  rw [hus] at h3
  omega
theorem Room.add {nseg ever c k : Nat} {used : List Pc} (h : Room nseg ever used) (hok : ∀ u ∈ used, okP nseg u) (hf : FitIs used nseg c (some k)) : Room nseg (ever + c) (used ++ [(k, c)]) := by
  obtain ⟨E, h1, h2⟩ := h
  obtain ⟨⟨⟨hc, hc16, hs, hk⟩, _⟩, hmin⟩ := hf
  simp only at hc hc16 hs hk
  have hle : k % 16 + c ≤ E (k / 16) + c := by
    by_cases he : E (k / 16) + c ≤ 16
    · have hfr := free_above hok h2 hc hs he
      have : ¬ 16 * (k / 16) + E (k / 16) < k := fun hlt => hmin _ hlt hfr
      omega
    · omega
  refine ⟨fun i => if i = k / 16 then E i + c else E i, Nat.le_trans (sumTo_bump E (k / 16) c nseg) (by omega), fun u hu => ?_⟩
  rcases List.mem_append.1 hu with hu | hu
  · have := h2 u hu
    show u.1 % 16 + u.2 ≤ if u.1 / 16 = k / 16 then E (u.1 / 16) + c else E (u.1 / 16)
    by_cases hi : u.1 / 16 = k / 16
    · rw [if_pos hi]; omega
    · rw [if_neg hi]; exact this
  · rw [List.mem_singleton] at hu
    subst hu
    show k % 16 + c ≤ if k / 16 = k / 16 then E (k / 16) + c else E (k / 16)
    rw [if_pos rfl]
    exact hle
/-- What does not fit: each segment has been filled half. -/
theorem Room.full {nseg ever c : Nat} {used : List Pc} (h : Room nseg ever used) (hok : ∀ u ∈ used, okP nseg u) (hc : 1 ≤ c) (hc9 : c ≤ 9) (hf : FitIs used nseg c none) : 8 * nseg < ever + c := by
  obtain ⟨E, h1, h2⟩ := h
  have := sumTo_ge E 8 nseg fun s hs => by
    by_cases he : E s + c ≤ 16
    · exact absurd (free_above hok h2 hc hs he) (hf _)
    · omega
  omega
/-- What is in use is held by the disk. -/
def Held1 (Hs : List (List UInt8)) (used : List Pc) (bytes : List (List UInt8)) : Prop := ∀ (k : Nat) (u : Pc) (b : List UInt8), used[k]? = some u → bytes[k]? = some b → b.length ≤ 512 ∧ u.2 = costM b.length ∧ Holds Hs u (textM b)
theorem erase_at {α : Type} {xs : List α} {k i : Nat} {x : α} (h : (xs.eraseIdx k)[i]? = some x) : xs[if i < k then i else i + 1]? = some x := by
  rw [List.getElem?_eraseIdx] at h
  split
  · rename_i hi; rw [if_pos hi] at h; exact h
  · rename_i hi; rw [if_neg hi] at h; exact h
theorem Held1.drop {Hs : List (List UInt8)} {used : List Pc} {bytes : List (List UInt8)} (h : Held1 Hs used bytes) (k : Nat) : Held1 Hs (used.eraseIdx k) (bytes.eraseIdx k) := fun _i u b hu hb => h _ u b (erase_at hu) (erase_at hb)
/-- Writes at a place that is free leave what is held. -/
theorem Held1.writes {Hs : List (List UInt8)} {used : List Pc} {bytes : List (List UInt8)} {nseg c k : Nat} (h : Held1 Hs used bytes) (hf : Free1 used nseg c k) {ws : Ws} (hw : ∀ y ∈ ws, k ≤ y.1 ∧ y.1 < k + c) : Held1 (setAll ws Hs) used bytes := fun i u b hu hb => by
  obtain ⟨h1, h2, h3⟩ := h i u b hu hb
  refine ⟨h1, h2, h3.far fun y hy hin => ?_⟩
  obtain ⟨a1, a2⟩ := hw y hy
  exact hf.2 y.1 a1 a2 ⟨u, List.mem_of_getElem? hu, hin.1, hin.2⟩
theorem Held1.add {Hs : List (List UInt8)} {used : List Pc} {bytes : List (List UInt8)} {nseg k : Nat} {b : List UInt8} (h : Held1 Hs used bytes) (heq : used.length = bytes.length) (hl : b.length ≤ 512) (hf : Free1 used nseg (costM b.length) k) (hn : 16 * nseg ≤ Hs.length) :
    Held1 (setAll (wsM k (textM b) (costM b.length)) Hs) (used ++ [(k, costM b.length)]) (bytes ++ [b]) := fun i u b' hu hb => by
  have hw : ∀ y ∈ wsM k (textM b) (costM b.length), k ≤ y.1 ∧ y.1 < k + costM b.length := fun y hy => wsM_in hy
  rcases Nat.lt_or_ge i used.length with h1 | h1
  · rw [List.getElem?_append_left h1] at hu
    rw [List.getElem?_append_left (by omega)] at hb
    exact h.writes hf hw i u b' hu hb
  · rw [List.getElem?_append_right h1] at hu
    rw [List.getElem?_append_right (by omega)] at hb
    have h0 : i - used.length = 0 := by
      have := (List.getElem?_eq_some_iff.1 hu).1
      simp at this
      exact this
    rw [h0] at hu
    rw [show i - bytes.length = 0 by omega] at hb
    simp at hu hb
    subst hu hb
    refine ⟨hl, rfl, Holds.wrote _ ?_⟩
    have h3 := hf.1.2.2.1
    have h4 := hf.1.2.2.2
    simp only at h3 h4
    omega
end Go.Proofs.YtgcckfaljfkkhaaDoor.Hot
/- The law's stand: a plant, the hot disk on it, and what must be in use. -/
namespace Go.Proofs.YtgcckfaljfkkhaaDoor.Hot
open Go Go.RowKit Mem Pl Disk Crc _root_.Go.Proofs.YtgcckfaljfkkhaaDoor.Frame
structure StandB (B : Nat) (w : World) (s a h r : Nat) (F H G : Nat → Prop) (pm : PM) (m n : Nat) (Hs : List (List UInt8)) (segs : List Nat) (hsed used : List Pc) (bytes : List (List UInt8)) (ever dims : Nat) : Prop where
  blk : Blk w s 47 #[.pointer (some ⟨a, 0, none⟩), .pointer (some ⟨h, 0, none⟩), .pointer (some ⟨r, 0, none⟩), .int .i64 (ever : Int), .int .i64 (dims : Int)]
  sB : B ≤ s
  hot : HotSt B w F H a h pm m 1 n Hs [] segs hsed
  perm : hsed.Perm used
  ref : RHotAt w G r 1 n used bytes
  lt : ∀ g, G g → B ≤ g ∧ g < w.heap.size
  fg : ∀ g, F g → ¬ G g
  hg : ∀ g, H g → ¬ G g
  sF : ¬ F s
  sH : ¬ H s
  sG : ¬ G s
  tabs : Tabs B w
  hB : B ≤ w.heap.size
  on : pm.off = false
  held : Held1 Hs used bytes
  room : Room segs.length ever used
  n1 : 1 ≤ n
  n4 : n ≤ 4096
section
variable {B : Nat} {w w' : World} {s a h r : Nat} {F H G : Nat → Prop} {pm : PM} {m n : Nat} {Hs : List (List UInt8)} {segs : List Nat} {hsed used : List Pc} {bytes : List (List UInt8)} {ever dims : Nat}
theorem HotSt.below {dev N : Nat} {ws : Ws} (x : HotSt B w F H a h pm m dev N Hs ws segs used) (hb : Below w.heap.size w w') : HotSt B w' F H a h pm m dev N Hs ws segs used :=
  ⟨St.off_ x.st (Mods.of_below (F := fun _ => False) hb) (fun _g _ y => y), x.disk, x.hot.below hb, x.ok, x.size, fun g hg => ⟨(x.lt g hg).1, Nat.lt_of_lt_of_le (x.lt g hg).2 hb.size⟩, x.apart⟩
theorem StandB.below (x : StandB B w s a h r F H G pm m n Hs segs hsed used bytes ever dims) (hb : Below w.heap.size w w') : StandB B w' s a h r F H G pm m n Hs segs hsed used bytes ever dims :=
  ⟨x.blk.below_ hb, x.sB, x.hot.below hb, x.perm, x.ref.below hb, fun g hg => ⟨(x.lt g hg).1, Nat.lt_of_lt_of_le (x.lt g hg).2 hb.size⟩, x.fg, x.hg, x.sF, x.sH, x.sG, x.tabs.below hb x.hB, Nat.le_trans x.hB hb.size, x.on, x.held, x.room, x.n1, x.n4⟩
theorem StandB.len (x : StandB B w s a h r F H G pm m n Hs segs hsed used bytes ever dims) : used.length = bytes.length := by
  obtain ⟨_, _, _, y⟩ := x.ref
  exact y.eq
/-- What is in use is read as it was. -/
theorem StandB.reads (x : StandB B w s a h r F H G pm m n Hs segs hsed used bytes ever dims) {k : Nat} {u : Pc} {b : List UInt8} (hu : used[k]? = some u) (hb : bytes[k]? = some b) : readM Hs u = some b := by
  obtain ⟨h1, h2, h3⟩ := x.held k u b hu hb
  have e : u = (u.1, costM b.length) := by rw [← h2]
  rw [e] at h3 ⊢
  exact readM_holds h1 h3
theorem StandB.few (x : StandB B w s a h r F H G pm m n Hs segs hsed used bytes ever dims) (hul : used.length ≤ 1000000000) {k : Nat} {u : Pc} {b : List UInt8} (hu : used[k]? = some u) (hb : bytes[k]? = some b) (hm : m ≤ 1000000000) (bad : Bool) :
    Calls Tryd.prog 26 #[.pointer (some ⟨h, 0, none⟩), .agg #[.int .i64 1, .int .i64 (u.1 : Int), .int .i64 (u.2 : Int), .bool bad]] w fun e w' => ∃ A mm cap, e = .returned (.tuple #[.slice A mm cap, .int .i64 0]) ∧ Own w' w.heap.size 5 A mm cap b ∧ Below w.heap.size w w' := by
  obtain ⟨S, U, y⟩ := x.hot.hot
  refine (hread_any x.hot.st hm y x.hot.ok (by rw [x.perm.length_eq]; exact hul) x.hot.disk x.on x.hot.size x.tabs.crc (Nat.lt_of_lt_of_le x.tabs.c1 x.hB) 1 (u.1 : Int) (u.2 : Int) bad).mono ?_
  rintro e w' ⟨rr, hf, hr⟩
  cases rr with
  | none =>
    have := hf u (x.perm.mem_iff.2 (List.mem_of_getElem? hu))
    rw [show (1 : Int) = ((1 : Nat) : Int) from rfl, isP_self] at this
    cases this
  | some k' =>
    obtain ⟨⟨v, hv, hp⟩, _⟩ := hf
    obtain ⟨_, e1, e2⟩ := isP_true hp
    have e3 : v = u := by
      have a1 : v.1 = u.1 := by omega
      have a2 : v.2 = u.2 := by omega
      exact Prod.ext a1 a2
    subst e3
    obtain ⟨v', hv', hrr⟩ := hr
    rw [hv] at hv'
    injection hv' with hv'
    subst hv'
    unfold ReadP at hrr
    rw [x.reads hu hb] at hrr
    exact hrr
end
end Go.Proofs.YtgcckfaljfkkhaaDoor.Hot
/- The stand's 'all': what is in use is read as it was. -/
namespace Go.Proofs.YtgcckfaljfkkhaaDoor.Hot
open Go Go.RowKit Mem Pl Disk Crc _root_.Go.Proofs.YtgcckfaljfkkhaaDoor.Frame
theorem StandB.c0 {B : Nat} {w : World} {s a h r : Nat} {F H G : Nat → Prop} {pm : PM} {m n : Nat} {Hs : List (List UInt8)} {segs : List Nat} {hsed used : List Pc} {bytes : List (List UInt8)} {ever dims : Nat} (x : StandB B w s a h r F H G pm m n Hs segs hsed used bytes ever dims) :
    w.cell? ⟨s, 0, none⟩ = some (.pointer (some ⟨a, 0, none⟩)) ∧ w.cell? ⟨s, 1, none⟩ = some (.pointer (some ⟨h, 0, none⟩)) ∧ w.cell? ⟨s, 2, none⟩ = some (.pointer (some ⟨r, 0, none⟩)) ∧ w.cell? ⟨s, 3, none⟩ = some (.int .i64 (ever : Int)) ∧ w.cell? ⟨s, 4, none⟩ = some (.int .i64 (dims : Int)) :=
  ⟨(x.blk.cell 0).trans rfl, (x.blk.cell 1).trans rfl, (x.blk.cell 2).trans rfl, (x.blk.cell 3).trans rfl, (x.blk.cell 4).trans rfl⟩
def AllR (w : World) (l : Nat) (g : Nat) (iv : Value) (wr : World) : Prop := ∃ i : Nat, i + g = l ∧ iv = .int .i64 (i : Int) ∧ Below w.heap.size w wr
def NineR (w : World) (base : Nat) (A : Option Addr) (mm c : Nat) (kv : Value) (wr : World) : Prop :=
  ∃ (k : Nat) (bs : List UInt8), k ≤ mm ∧ kv = .int .i64 (k : Int) ∧ Own wr base 5 A mm c bs ∧ Below w.heap.size w wr
set_option maxRecDepth 100000 in
set_option maxHeartbeats 8000000 in
theorem all_any {B : Nat} {w : World} {s a h r : Nat} {F H G : Nat → Prop} {pm : PM} {m n : Nat} {Hs : List (List UInt8)} {segs : List Nat} {hsed used : List Pc} {bytes : List (List UInt8)} {ever dims : Nat} (x : StandB B w s a h r F H G pm m n Hs segs hsed used bytes ever dims) (hul : used.length ≤ 1000000000) (hm : m ≤ 1000000000) :
    Calls Tryd.prog 20 #[.pointer (some ⟨s, 0, none⟩)] w fun e w' => e = .returned (.bool true) ∧ Below w.heap.size w w' := by
  have HX := Lib.hid x
  clear x
  go_enter Tryd.func20, Tryd.ntmps20
  go_wp2_with fail
  go_loopg [3] used.length (fun g iv wr => AllR w used.length g iv wr)
  case atStart => exact ⟨0, by omega, rfl, Below.refl _ _⟩
  case round =>
    obtain ⟨i, hi, rfl, hb⟩ := hrel
    have HB := Lib.hid hb
    have HGI := Lib.hid hi
    have HXr := Lib.hid (HX.out.below hb)
    obtain ⟨_, c1, c2, _, _⟩ := HXr.out.c0
    have hls := HXr.out.blk.lt
    obtain ⟨U, V, vs, y⟩ := HXr.out.ref
    have HY := Lib.hid y
    have u2 := y.c2
    have u3 := y.c3
    have hlr := y.blk.lt
    obtain ⟨AU, cU, hUe⟩ := y.uv.shape
    clear hb hi y
    by_cases hlt : i < used.length
    · have hiI : (i : Int) < (used.length : Int) := by omega
      obtain ⟨u, hu⟩ : ∃ u, used[i]? = some u := ⟨_, List.getElem?_eq_getElem hlt⟩
      have hlb := HXr.out.len
      obtain ⟨b, hbb⟩ : ∃ b, bytes[i]? = some b := ⟨_, List.getElem?_eq_getElem (by omega)⟩
      obtain ⟨g, c, hU, e0, e1, e2, e3⟩ := used_cells HY.out.uv hu
      rw [hU] at u2
      have HU := Lib.hid hu
      have HBB := Lib.hid hbb
      have HRD := Lib.hid ((HXr.out.below (below_drewN (Below.refl _ _) 1)).few hul hu hbb hm false)
      have e0 : wr.cell? ⟨g, i * 4, none⟩ = some (.int .i64 1) := e0
      clear hU hUe hu hbb hlb
      go_wp2_with fail
      refine Ord.region_ord [14] [0, 1, 2, 3, 4, 5, 6, 7, 8, 9, 10, 11, 12, 13, 14, 15, 16, 17, 18, 19] (by kernel_rfl) (by kernel_rfl) (by kernel_rfl) (by kernel_rfl) (Ord.ord_run [0, 1, 2, 3, 4, 5, 6, 7, 8, 9, 10, 11, 12, 13] [_, _, _, _, _, _, _, _, _, _, _, _, _, _] rfl (by kernel_rfl) ?_)
      go_wp2_with fail
      refine Ord.nx_ord (Ord.ord_one rfl ?_)
      go_wp2_with fail
      refine HRD.out.mono ?_
      rintro e w5 ⟨A, mm, cap, rfl, ho5, hb5⟩
      have HO5 := Lib.hid ho5
      have HB5 := Lib.hid hb5
      clear ho5 hb5
      go_wp2_with fail
      refine Ord.nx_and HB5.out (Ord.ord_all [_, _, _, _, _] rfl (by kernel_rfl) ?_)
      go_wp2_with fail
      refine Ord.nx_end ?_
      have hb15 : Below wr.heap.size wr w5 := (below_drewN (Below.refl wr.heap.size wr) 1).trans HB5.out
      have HB15 := Lib.hid (HB.out.trans (hb15.mono HB.out.size))
      have HX5 := Lib.hid (HXr.out.below hb15)
      have hls5 := HX5.out.blk.lt
      obtain ⟨_, c1, c2, _, _⟩ := HX5.out.c0
      obtain ⟨U5, V5, vs5, y5⟩ := HX5.out.ref
      have u3 := y5.c3
      have hlr5 := y5.blk.lt
      obtain ⟨v, hv, hby⟩ := y5.bv i b HBB.out
      obtain ⟨Ab, cb, rfl, hbat⟩ := hby.bat
      obtain ⟨AV, cV, rfl⟩ := y5.rows.shape
      obtain ⟨gV, hAV, hcv⟩ := y5.rows.cell i _ hv
      subst hAV
      have hbl : i < bytes.length := (List.getElem?_eq_some_iff.1 HBB.out).1
      have hblI : (i : Int) < (bytes.length : Int) := by omega
      have k1 := fun q => run_toString (P := Tryd.prog) (w := w5.drewN q) (ts := 9) Frame.byteTy strTy cap (HO5.out.bat.below (below_drewN (Below.refl _ _) q)) HO5.out.len
      have k2 := fun q => run_toString (P := Tryd.prog) (w := w5.drewN q) (ts := 9) Frame.byteTy strTy cb (hbat.below (below_drewN (Below.refl _ _) q)) rfl
      have k3 := run_toString (P := Tryd.prog) (w := w5) (ts := 9) Frame.byteTy strTy cap HO5.out.bat HO5.out.len
      have k4 := run_toString (P := Tryd.prog) (w := w5) (ts := 9) Frame.byteTy strTy cb hbat rfl
      generalize (⟨b.toArray⟩ : ByteArray) = S at *
      clear y5 hby hbat hv HY HXr hb15 e0 e1 e2 e3 u2 hls hlr
      go_wp2_with fail
      go_quiet (fail)
      have hle5 : w.heap.size ≤ wr.drew.heap.size := HB.out.size
      obtain ⟨base, hbase⟩ : ∃ base, wr.drew.heap.size = base := ⟨_, rfl⟩
      clear k1 k2 k3 k4 c1 c2 u3 hcv hblI
      have hmm : mm ≤ 9223372036854775807 := by have := HO5.out.cap_le; unfold maxLen at this; omega
      have HOQ := Lib.hid (show Own (w5.drewN nq) wr.drew.heap.size 5 A mm cap b from HO5.out.below (below_drewN (Below.refl _ _) nq))
      rw [hbase] at hle5 HOQ
      clear hbase
      have HBQ := Lib.hid (below_drewN HB15.out nq)
      go_wp2_with fail
      go_loopw [6] (fun kv wx => NineR w base A mm cap kv wx) (fun kv _ => mm - (intOf kv).toNat)
      case atStart => exact ⟨0, b, by omega, by simp, HOQ.out, HBQ.out⟩
      case round =>
        obtain ⟨k, ds, hk, rfl, ho, hbx⟩ := hrel
        have HD := Lib.hid ho
        have HBX := Lib.hid hbx
        clear ho hbx
        by_cases hlt' : k < mm
        · obtain ⟨gA, rfl, hgA⟩ : ∃ g, A = some ⟨g, 0, none⟩ ∧ base ≤ g := by
            rcases HD.out.form with ⟨_, h, _⟩ | ⟨g, h, h2, _⟩
            · omega
            · exact ⟨g, h, h2⟩
          have HGA := Lib.hid hgA
          have hkI : (k : Int) < (mm : Int) := by omega
          have hcell := HD.out.at_ hlt'
          have hfree := HD.out.free k
          clear hgA
          go_wp2_with fail
          go_roundw
          case rel => exact ⟨k + 1, _, hlt', by go_num, HD.out.setByte k 99, HBX.out.setCell (p := ⟨gA, k, none⟩) (Nat.le_trans hle5 HGA.out) _⟩
          case measure => simp [intOf]; omega
        · obtain rfl : k = mm := by omega
          have hkI : ¬ ((k : Nat) : Int) < (k : Int) := by omega
          go_wp2_with fail
          go_roundg (gk - 1)
          case measure => have := HGI.out; omega
          case rel => exact ⟨i + 1, by have := HGI.out; omega, by go_num, HBX.out⟩
    · obtain rfl : i = used.length := by have := HGI.out; omega
      have hiI : ¬ ((used.length : Nat) : Int) < (used.length : Int) := by omega
      rw [hUe] at u2
      clear hUe
      go_wp2_with fail
      go_ret
      exact ⟨rfl, HB.out⟩
end Go.Proofs.YtgcckfaljfkkhaaDoor.Hot
/- What the stand's 'opened' needs in plain terms: the places from behind, opened anew. -/
namespace Go.Proofs.YtgcckfaljfkkhaaDoor.Hot
open Go Go.RowKit Mem Pl Disk Crc _root_.Go.Proofs.YtgcckfaljfkkhaaDoor.Frame
/-- The place number k from behind. -/
def backP (used : List Pc) (k : Nat) : Plc := ⟨1, ((used.getD (used.length - 1 - k) (0, 0)).1 : Int), ((used.getD (used.length - 1 - k) (0, 0)).2 : Int), decide ((used.length - 1 - k) % 2 = 0)⟩
def backs (used : List Pc) (k : Nat) : List Plc := (List.range k).map (backP used)
theorem backs_len (used : List Pc) (k : Nat) : (backs used k).length = k := by simp [backs]
theorem backs_next (used : List Pc) (k : Nat) : backs used (k + 1) = backs used k ++ [backP used k] := by
  unfold backs
  rw [List.range_succ, List.map_append]
  rfl
theorem backP_pc (used : List Pc) (k : Nat) : (backP used k).pc = used.getD (used.length - 1 - k) (0, 0) := by
  unfold backP Plc.pc
  simp
theorem backs_pc (used : List Pc) : ∀ k, k ≤ used.length → (backs used k).map Plc.pc = used.reverse.take k
  | 0, _ => by simp [backs]
  | k + 1, hk => by
    rw [backs_next, List.map_append, backs_pc used k (by omega)]
    have hl : k < used.reverse.length := by rw [List.length_reverse]; omega
    rw [List.take_succ_eq_append_getElem hl]
    congr 1
    simp only [List.map_cons, List.map_nil]
    rw [backP_pc, List.getElem_reverse, List.getD_eq_getElem?_getD, List.getElem?_eq_getElem (by omega)]
    rfl
theorem apart_take {used : List Pc} (h : Apart used) (k : Nat) : Apart (used.take k) := List.Pairwise.sublist (List.take_sublist k used) h
theorem openM_of {dev nseg : Nat} : ∀ (ps : List Plc) (pre : List Pc), (∀ p ∈ ps, p.dev = (dev : Int) ∧ p.at_ = (p.pc.1 : Int) ∧ p.len = (p.pc.2 : Int) ∧ okP nseg p.pc) → Apart (pre ++ ps.map Plc.pc) → ps.foldl (openStep dev nseg) (some pre) = some (pre ++ ps.map Plc.pc)
  | [], pre, _, _ => by simp
  | p :: ps, pre, h, ha => by
    obtain ⟨h1, h2, h3, h4⟩ := h p (by simp)
    obtain ⟨k1, k2, k3, k4⟩ := h4
    have hpl : placeM dev nseg p.dev p.at_ p.len = true := by
      unfold placeM
      rw [decide_eq_true_iff, h1, h2, h3]
      exact ⟨rfl, by omega, by omega, by omega, by omega, by omega⟩
    have hno : ∀ k, p.pc.1 ≤ k → k < p.pc.1 + p.pc.2 → ¬ Occ pre k := by
      rintro k hk1 hk2 ⟨u, hu, hu1, hu2⟩
      exact (List.pairwise_append.1 ha).2.2 u hu p.pc (by simp) k hu1 hu2 ⟨hk1, hk2⟩
    rw [List.foldl_cons]
    have e : openStep dev nseg (some pre) p = some (pre ++ [p.pc]) := by
      unfold openStep
      simp only
      rw [if_pos ⟨hpl, hno⟩]
    rw [e, openM_of ps (pre ++ [p.pc]) (fun q hq => h q (by simp [hq])) (by simpa using ha)]
    simp
theorem openM_backs {nseg : Nat} {used : List Pc} (hok : ∀ u ∈ used, okP nseg u) (ha : Apart used) : openM 1 nseg (backs used used.length) = some used.reverse := by
  have hpc := backs_pc used used.length (Nat.le_refl _)
  rw [List.take_of_length_le (by rw [List.length_reverse]; exact Nat.le_refl _)] at hpc
  unfold openM
  rw [openM_of _ [] (fun p hp => ?_) (by rw [hpc]; exact ha.perm used.reverse_perm.symm), hpc]
  · rfl
  · have hin : p.pc ∈ (backs used used.length).map Plc.pc := List.mem_map_of_mem hp
    rw [hpc] at hin
    obtain ⟨k, _, rfl⟩ := List.mem_map.1 hp
    refine ⟨rfl, ?_, ?_, hok _ (by simpa using hin)⟩ <;> rw [backP_pc] <;> rfl
section
variable {B : Nat} {w w' : World} {s a h r : Nat} {F H G K : Nat → Prop} {pm : PM} {m n : Nat} {Hs : List (List UInt8)} {segs : List Nat} {hsed used : List Pc} {bytes : List (List UInt8)} {ever dims : Nat}
theorem HotSt.mods {dev N : Nat} {ws : Ws} (x : HotSt B w F H a h pm m dev N Hs ws segs used) (hm : Mods w.heap.size K w w') (hF : ∀ g, F g → ¬ K g) (hH : ∀ g, H g → ¬ K g) : HotSt B w' F H a h pm m dev N Hs ws segs used :=
  ⟨St.off_ x.st hm hF, x.disk, x.hot.mods hm (fun g hg hh => ⟨hg, hH g hh⟩), x.ok, x.size, fun g hg => ⟨(x.lt g hg).1, Nat.lt_of_lt_of_le (x.lt g hg).2 hm.size⟩, x.apart⟩
/-- What is written elsewhere leaves the stand. -/
theorem StandB.mods (x : StandB B w s a h r F H G pm m n Hs segs hsed used bytes ever dims) (hm : Mods w.heap.size K w w') (hF : ∀ g, F g → ¬ K g) (hH : ∀ g, H g → ¬ K g) (hG : ∀ g, G g → ¬ K g) (hs : ¬ K s) (hK : ∀ g, K g → B ≤ g) : StandB B w' s a h r F H G pm m n Hs segs hsed used bytes ever dims :=
  ⟨x.blk.mods hm x.blk.lt hs, x.sB, x.hot.mods hm hF hH, x.perm, x.ref.mods hm (fun g hg hh => ⟨hg, hG g hh⟩), fun g hg => ⟨(x.lt g hg).1, Nat.lt_of_lt_of_le (x.lt g hg).2 hm.size⟩, x.fg, x.hg, x.sF, x.sH, x.sG, x.tabs.mods hm hK x.hB, Nat.le_trans x.hB hm.size, x.on, x.held, x.room, x.n1, x.n4⟩
theorem StandB.dev1 (x : StandB B w s a h r F H G pm m n Hs segs hsed used bytes ever dims) : 1 < pm.disks.length ∧ pm.disks[1]? = some n := by
  have hd := x.hot.disk.dev
  have hok := x.hot.st.ok
  have h1 := hok.tape 1 _ hd
  have h2 : 1 < pm.disks.length := by
    have : ¬ pm.disks.length ≤ 1 := fun h => by rw [decide_eq_true h] at h1; cases h1
    omega
  have h3 := (hok.most 1 _ hd).1
  rw [List.getElem?_append_left h2] at h3
  exact ⟨h2, h3⟩
theorem StandB.oks (x : StandB B w s a h r F H G pm m n Hs segs hsed used bytes ever dims) : (∀ u ∈ used, okP (n / 16) u) ∧ Apart used :=
  ⟨fun u hu => by rw [x.hot.size]; exact x.hot.ok.ok u (x.perm.mem_iff.2 hu), x.hot.ok.apart.perm x.perm⟩
theorem back_cells {used : List Pc} {k i : Nat} {u : Pc} {bad : Bool} (hi : i + k + 1 = used.length) (hu : used[i]? = some u) (hb : decide (i % 2 = 0) = bad) : (backs used (k + 1)).flatMap Plc.cells = (backs used k).flatMap Plc.cells ++ [.int .i64 1, .int .i64 (u.1 : Int), .int .i64 (u.2 : Int), .bool bad] := by
  rw [backs_next, List.flatMap_append]
  congr 1
  have e : used.length - 1 - k = i := by omega
  simp only [List.flatMap_cons, List.flatMap_nil, List.append_nil]
  unfold backP Plc.cells
  rw [e, List.getD_eq_getElem?_getD, hu, hb]
  rfl
theorem backs_at {used : List Pc} {nseg k : Nat} {A : Option Addr} {c : Nat} {K : Nat → Prop} (hok : ∀ u ∈ used, okP nseg u) (hn : nseg ≤ 256) (hk : k ≤ used.length) (hv : Vec w K 36 4 (.slice A k c) k ((backs used k).flatMap Plc.cells)) : PlsAt w A (backs used k) := fun j p hp => by
  have hj : j < k := by have := (List.getElem?_eq_some_iff.1 hp).1; rw [backs_len] at this; exact this
  have hpj : p = backP used j := by
    unfold backs at hp
    rw [List.getElem?_map, List.getElem?_range hj] at hp
    injection hp with hp
    exact hp.symm
  have hlen : ∀ q ∈ backs used k, q.cells.length = 4 := fun q _ => rfl
  have hcell : ∀ i, i < 4 → ((backs used k).flatMap Plc.cells)[j * 4 + i]? = p.cells[i]? := fun i hi => by
    rw [List.flatMap_def]
    refine flat_get _ (fun r hr => ?_) j i p.cells ?_ hi
    · obtain ⟨q, _, rfl⟩ := List.mem_map.1 hr
      rfl
    · rw [List.getElem?_map, hp]
      rfl
  obtain ⟨g, hA, h0⟩ := hv.cell (j * 4) _ (by rw [show j * 4 = j * 4 + 0 from rfl, hcell 0 (by decide)]; rfl)
  subst hA
  have hin : (used.getD (used.length - 1 - j) (0, 0)) ∈ used := by
    rw [List.getD_eq_getElem?_getD, List.getElem?_eq_getElem (by omega)]
    exact List.getElem_mem _
  have hd := (hok _ hin).2.2.1
  have e : (⟨g, 0, none⟩ : Addr).add (j * 4) = ⟨g, j * 4, none⟩ := by unfold Addr.add; split <;> simp_all
  refine ⟨_, rfl, ?_, ?_⟩
  · rw [hpj]
    unfold backP inI
    simp only
    omega
  · rw [e]
    exact ⟨h0, hv.at_ (by rw [hcell 1 (by decide)]; rfl), hv.at_ (by rw [hcell 2 (by decide)]; rfl), hv.at_ (by rw [hcell 3 (by decide)]; rfl)⟩
/-- The disk opened anew. -/
theorem StandB.reopen {h' : Nat} {segs' : List Nat} {vsed : List Pc} (x : StandB B w s a h r F H G pm m n Hs segs hsed used bytes ever dims) (hb : Below w.heap.size w w') (hh : HotAt w' (New w w') h' a 1 segs' vsed) (hok' : HotOk segs' vsed) (hsl : segs'.length = n / 16) (hp : vsed.Perm used) :
    StandB B (w'.setCell ⟨s, 1, none⟩ (.pointer (some ⟨h', 0, none⟩))) s a h' r F (New w w') G pm m n Hs segs' vsed used bytes ever dims ∧ segs'.length = segs.length := by
  have x3 := x.below hb
  have hm : Mods w'.heap.size (fun g => g = s) w' (w'.setCell ⟨s, 1, none⟩ (.pointer (some ⟨h', 0, none⟩))) := (Mods.refl w'.heap.size (fun g => g = s) w').setCell (.inl rfl) _
  have hs := x.blk.lt
  have hF : ∀ g, F g → ¬ g = s := fun g hg e => x.sF (e ▸ hg)
  have hG : ∀ g, G g → ¬ g = s := fun g hg e => x.sG (e ▸ hg)
  have hlen : segs'.length = segs.length := by rw [hsl, x.hot.size]
  have hsz := hm.size
  refine ⟨⟨?_, x.sB, ⟨St.off_ x3.hot.st hm hF, x3.hot.disk, hh.mods hm (fun g hg hH => ⟨hg, fun e => by have := hH.1; omega⟩), hok', by rw [hsl], fun g hg => ⟨Nat.le_trans x.hB hg.1, Nat.lt_of_lt_of_le hg.2 hsz⟩, fun g hf hg => by have := (x.hot.st.lt g hf).2; have := hg.1; omega⟩, hp, x3.ref.mods hm (fun g hg hh => ⟨hg, hG g hh⟩), fun g hg => ⟨(x3.lt g hg).1, Nat.lt_of_lt_of_le (x3.lt g hg).2 hsz⟩, x.fg, fun g hg hg' => by have := (x.lt g hg').2; have := hg.1; omega, x.sF, fun hg => by have := hg.1; omega, x.sG, x3.tabs.mods hm (fun g e => by rw [e]; exact x.sB) x3.hB, Nat.le_trans x3.hB hsz, x.on, x.held, by rw [hlen]; exact x.room, x.n1, x.n4⟩, hlen⟩
  have := x3.blk.set_ 1 (.pointer (some ⟨h', 0, none⟩))
  simpa using this
end
end Go.Proofs.YtgcckfaljfkkhaaDoor.Hot
