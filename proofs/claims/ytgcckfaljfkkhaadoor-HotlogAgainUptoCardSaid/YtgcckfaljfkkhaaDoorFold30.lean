/- The stand's 'do'. -/
import Derived.Test.YtgcckfaljfkkhaaDoorHotDoFree
import Derived.Test.YtgcckfaljfkkhaaDoorHotDoRead
import Derived.Test.YtgcckfaljfkkhaaDoorHotDoX
import Derived.Test.YtgcckfaljfkkhaaDoorHotDoMore
import Derived.Test.YtgcckfaljfkkhaaDoorFold24
namespace Go.Proofs.YtgcckfaljfkkhaaDoor.Hot
open Go Go.RowKit Mem Pl Disk Crc _root_.Go.Proofs.YtgcckfaljfkkhaaDoor.Frame
theorem sdo_any {B : Nat} {w : World} {s a h r : Nat} {F H G : Nat → Prop} {pm : PM} {m n : Nat} {Hs : List (List UInt8)} {segs : List Nat} {hsed used : List Pc} {bytes : List (List UInt8)} {ever dims : Nat} (x : StandB B w s a h r F H G pm m n Hs segs hsed used bytes ever dims) (hul : used.length ≤ 90000000) (hm : m ≤ 900000000) (hev : ever ≤ 4000000000000000000) (hdi : dims ≤ 4000000000000000000)
    (kind num : Int) (A : Option Addr) (L cap : Nat) (p : Plc) (KA : Option Addr) (kl kc : Nat) (hki : inI kind) (hni : inI num) (bs : List UInt8) (hb : BAt w A bs) (hl : bs.length = L) (hLm : L ≤ 140737488355327) (ha : bs ≠ [] → Aside w s F H G A) (keep : List Int) (hk : IAt w KA keep) (hkl : keep.length = kl) (hka : keep ≠ [] → Aside w s F H G KA) (hkm : kl ≤ 9223372036854775807) :
    Calls Tryd.prog 18 #[.pointer (some ⟨s, 0, none⟩), opV kind num A L cap p KA kl kc] w fun e w' => e = .returned (.bool true) ∧ Below B w w' ∧ Stood B w' s a r n (m + 20) (ever + 9) (dims + 1) (used.length + 1) := by
  have hlt := whichM_lt kind (show 0 < 10 by omega)
  by_cases h4 : whichM kind 10 < 4
  · exact sdo_append x hul hm hev hdi kind num A L cap p KA kl kc hki bs hb hl hLm ha keep hk hkl hka hkm h4
  by_cases h : whichM kind 10 = 4
  · exact sdo_free x hul hm hev hdi kind num A L cap p KA kl kc hki hni h
  by_cases h : whichM kind 10 = 5
  · exact sdo_read x hul hm hev hdi kind num A L cap p KA kl kc hki hni h
  by_cases h : whichM kind 10 = 6
  · exact sdo_x x hul hm hev hdi kind num A L cap p KA kl kc hki h
  by_cases h : whichM kind 10 = 7
  · exact sdo_fuse x hul hm hev hdi kind num A L cap p KA kl kc hki hni h
  by_cases h : whichM kind 10 = 8
  · exact sdo_boot x hul hm hev hdi kind num A L cap p KA kl kc hki keep hk hkl hka hkm h
  · exact sdo_opened x hul hm hev hdi kind num A L cap p KA kl kc hki (by omega)
end Go.Proofs.YtgcckfaljfkkhaaDoor.Hot
/- A hot disk in a law's hands: its places, what they hold, and the places that the law keeps beside it. -/
namespace Go.Proofs.YtgcckfaljfkkhaaDoor.Hot
open Go Go.RowKit Mem Pl Disk Crc _root_.Go.Proofs.YtgcckfaljfkkhaaDoor.Frame
def occB (used : List Pc) (k : Nat) : Bool := used.any fun x => decide (x.1 ≤ k ∧ k < x.1 + x.2)
theorem occB_iff (used : List Pc) (k : Nat) : occB used k = true ↔ Occ used k := by
  unfold occB Occ
  rw [List.any_eq_true]
  constructor
  · rintro ⟨x, hx, h⟩
    exact ⟨x, hx, of_decide_eq_true h⟩
  · rintro ⟨x, hx, h⟩
    exact ⟨x, hx, decide_eq_true h⟩
def freeB (used : List Pc) (nseg n at_ : Nat) : Bool := decide (1 ≤ n ∧ n ≤ 16 ∧ at_ / 16 < nseg ∧ at_ % 16 + n ≤ 16) && (List.range n).all fun j => !occB used (at_ + j)
theorem freeB_iff (used : List Pc) (nseg n at_ : Nat) : freeB used nseg n at_ = true ↔ Free1 used nseg n at_ := by
  unfold freeB Free1 okP
  rw [Bool.and_eq_true, decide_eq_true_iff, List.all_eq_true]
  constructor
  · rintro ⟨h1, h2⟩
    refine ⟨h1, fun k hk1 hk2 ho => ?_⟩
    have := h2 (k - at_) (List.mem_range.2 (by omega))
    rw [show at_ + (k - at_) = k by omega, (occB_iff used k).2 ho] at this
    cases this
  · rintro ⟨h1, h2⟩
    refine ⟨h1, fun j hj => ?_⟩
    have hj := List.mem_range.1 hj
    cases ho : occB used (at_ + j) with
    | false => rfl
    | true => exact absurd ((occB_iff _ _).1 ho) (h2 (at_ + j) (by omega) (by omega))
def fitB (used : List Pc) (nseg n : Nat) : Option Nat := (List.range (16 * nseg)).find? (freeB used nseg n)
theorem fitB_is (used : List Pc) (nseg n : Nat) : FitIs used nseg n (fitB used nseg n) := by
  cases h : fitB used nseg n with
  | none =>
    intro b hf
    unfold fitB at h
    rw [List.find?_eq_none] at h
    have h3 := hf.1.2.2.1
    simp only at h3
    exact h b (List.mem_range.2 (by omega)) ((freeB_iff _ _ _ _).2 hf)
  | some k =>
    unfold fitB at h
    rw [List.find?_range_eq_some] at h
    obtain ⟨h1, h2, h3⟩ := h
    refine ⟨(freeB_iff _ _ _ _).1 h1, fun b hb hf => ?_⟩
    have := h3 b hb
    rw [(freeB_iff _ _ _ _).2 hf] at this
    cases this
theorem fitB_eq {used : List Pc} {nseg n : Nat} {q : Option Nat} (h : FitIs used nseg n q) : q = fitB used nseg n := h.unique (fitB_is used nseg n)
structure Hot1 (B : Nat) (w : World) (F H : Nat → Prop) (a h : Nat) (pm : PM) (m n : Nat) (Hs : List (List UInt8)) (segs : List Nat) (used : List Pc) (bytes : List (List UInt8)) : Prop where
  hot : HotSt B w F H a h pm m 1 n Hs [] segs used
  held : Held1 Hs used bytes
  eq : used.length = bytes.length
  on : pm.off = false
  fuse : pm.fuse = none
  hB : B ≤ w.heap.size
  tabs : Tabs B w
section
variable {B : Nat} {w w' : World} {a h : Nat} {F H : Nat → Prop} {pm : PM} {m n : Nat} {Hs : List (List UInt8)} {segs : List Nat} {used : List Pc} {bytes : List (List UInt8)}
theorem Hot1.below (x : Hot1 B w F H a h pm m n Hs segs used bytes) (hb : Below w.heap.size w w') : Hot1 B w' F H a h pm m n Hs segs used bytes :=
  ⟨x.hot.below hb, x.held, x.eq, x.on, x.fuse, Nat.le_trans x.hB hb.size, x.tabs.below hb x.hB⟩
theorem Hot1.mods {K : Nat → Prop} (x : Hot1 B w F H a h pm m n Hs segs used bytes) (hm : Mods w.heap.size K w w') (hF : ∀ g, F g → ¬ K g) (hH : ∀ g, H g → ¬ K g) (hK : ∀ g, K g → B ≤ g) : Hot1 B w' F H a h pm m n Hs segs used bytes :=
  ⟨x.hot.mods hm hF hH, x.held, x.eq, x.on, x.fuse, Nat.le_trans x.hB hm.size, x.tabs.mods hm hK x.hB⟩
/-- What Append leaves. -/
def AppO (B : Nat) (w : World) (F H : Nat → Prop) (a h : Nat) (m n : Nat) (_pm : PM) (_Hs : List (List UInt8)) (_segs : List Nat) (used : List Pc) (bytes : List (List UInt8)) (bs : List UInt8) (e : Ending) (w' : World) : Prop :=
  (512 < bs.length ∧ e = .returned (.tuple #[noP, .int .i64 5]) ∧ Below w.heap.size w w') ∨
  (bs.length ≤ 512 ∧ fitB used (n / 16) (costM bs.length) = none ∧ e = .returned (.tuple #[noP, .int .i64 3]) ∧ Below w.heap.size w w') ∨
  ∃ k, bs.length ≤ 512 ∧ fitB used (n / 16) (costM bs.length) = some k ∧ e = .returned (.tuple #[.agg #[.int .i64 1, .int .i64 (k : Int), .int .i64 (costM bs.length : Int), .bool false], .int .i64 0]) ∧
    ∃ F' H' pm' Hs' segs', (∀ g, F' g → F g ∨ w.heap.size ≤ g) ∧ (∀ g, H' g → H g ∨ w.heap.size ≤ g) ∧ Mods w.heap.size (fun g => F g ∨ H g) w w' ∧ Hot1 B w' F' H' a h pm' (m + 17) n Hs' segs' (used ++ [(k, costM bs.length)]) (bytes ++ [bs])
theorem Hot1.append (x : Hot1 B w F H a h pm m n Hs segs used bytes) (hm : m ≤ 900000000) (hul : used.length ≤ 1000000000) (A : Option Addr) (L cap : Nat) (bs : List UInt8) (hb : BAt w A bs) (hl : bs.length = L) (hLm : L ≤ 9223372036854775807) :
    Calls Tryd.prog 15 #[.pointer (some ⟨h, 0, none⟩), .slice A L cap] w (AppO B w F H a h m n pm Hs segs used bytes bs) := by
  refine (happend_any x.hot x.hB hm x.on hul x.tabs A L cap bs hb hl hLm).mono ?_
  have hsz := x.hot.size
  rintro e w' (h1 | ⟨h1, h2, h3, h4⟩ | ⟨k, h1, h2, F', H', pm', hF', hH', hmo, ⟨h3, h4, h5, segs', h6, h7⟩ | ⟨h3, h4, h5, _⟩⟩)
  · exact .inl h1
  · refine .inr (.inl ⟨h1, ?_, h3, h4⟩)
    rw [hsz]
    exact (fitB_eq h2).symm
  · refine .inr (.inr ⟨k, h1, ?_, h3, F', H', pm', _, segs', hF', hH', hmo, h7, ?_, ?_, h4, h5 x.fuse, Nat.le_trans x.hB hmo.size, ?_⟩)
    · rw [hsz]
      exact (fitB_eq h2).symm
    · have hlen := x.hot.disk.len x.hot.st.ok
      exact x.held.add x.eq h1 h2.1 (by rw [hlen]; have := x.hot.size; omega)
    · simp [x.eq]
    · refine x.tabs.mods hmo (fun g hg => ?_) x.hB
      rcases hg with hg | hg
      · exact (x.hot.st.lt g hg).1
      · exact (x.hot.lt g hg).1
  · exact absurd x.fuse h5
theorem findP_its {used : List Pc} {d at_ len : Int} {u : Pc} {k : Nat} (hk : used[k]? = some u) (hp : isP 1 d at_ len u = true) {q : Option Nat} (h : FindIs used (isP 1 d at_ len) q) : ∃ j, q = some j ∧ used[j]? = some u := by
  cases q with
  | none =>
    have := h u (List.mem_of_getElem? hk)
    rw [hp] at this
    cases this
  | some j =>
    obtain ⟨⟨v, hv, hpv⟩, _⟩ := h
    have := isP_same hp hpv
    subst this
    exact ⟨j, rfl, hv⟩
theorem apart_once {used : List Pc} (ha : Apart used) {i j : Nat} {u : Pc} (hi : used[i]? = some u) (hj : used[j]? = some u) (h1 : 1 ≤ u.2) : i = j := by
  obtain ⟨hi', ei⟩ := List.getElem?_eq_some_iff.1 hi
  obtain ⟨hj', ej⟩ := List.getElem?_eq_some_iff.1 hj
  rcases Nat.lt_trichotomy i j with h | h | h
  · have := (List.pairwise_iff_getElem.1 ha) i j hi' hj' h u.1
    rw [ei, ej] at this
    exact absurd ⟨Nat.le_refl _, by omega⟩ (this (Nat.le_refl _) (by omega))
  · exact h
  · have := (List.pairwise_iff_getElem.1 ha) j i hj' hi' h u.1
    rw [ei, ej] at this
    exact absurd ⟨Nat.le_refl _, by omega⟩ (this (Nat.le_refl _) (by omega))
theorem Hot1.free (x : Hot1 B w F H a h pm m n Hs segs used bytes) (hul : used.length ≤ 1000000000) {k : Nat} {u : Pc} (hu : used[k]? = some u) (bad : Bool) :
    Calls Tryd.prog 17 #[.pointer (some ⟨h, 0, none⟩), .agg #[.int .i64 1, .int .i64 (u.1 : Int), .int .i64 (u.2 : Int), .bool bad]] w fun e w' => e = .returned (.int .i64 0) ∧ ∃ segs', Hot1 B w' F H a h pm m n Hs segs' (used.eraseIdx k) (bytes.eraseIdx k) ∧ Mods w.heap.size H w w' := by
  obtain ⟨S, U, y⟩ := x.hot.hot
  refine (free_any y x.hot.ok hul 1 (u.1 : Int) (u.2 : Int) bad).mono ?_
  rintro e w' ⟨q, hf, hr⟩
  obtain ⟨j, rfl, hj⟩ := findP_its hu (isP_its u) hf
  obtain rfl : j = k := apart_once x.hot.ok.apart hj hu (x.hot.ok.ok u (List.mem_of_getElem? hu)).1
  obtain ⟨rfl, ⟨segs', hl, hok', hat⟩, hm⟩ := hr
  exact ⟨rfl, segs', ⟨⟨St.off_ x.hot.st hm x.hot.apart, x.hot.disk, hat, hok', by rw [hl]; exact x.hot.size, fun g hg => ⟨(x.hot.lt g hg).1, Nat.lt_of_lt_of_le (x.hot.lt g hg).2 hm.size⟩, x.hot.apart⟩, x.held.drop j, by rw [List.length_eraseIdx, List.length_eraseIdx, x.eq], x.on, x.fuse, Nat.le_trans x.hB hm.size, x.tabs.mods hm (fun g hg => (x.hot.lt g hg).1) x.hB⟩, hm⟩
theorem Hot1.read (x : Hot1 B w F H a h pm m n Hs segs used bytes) (hul : used.length ≤ 1000000000) (hm : m ≤ 1000000000) {k : Nat} {u : Pc} {b : List UInt8} (hu : used[k]? = some u) (hb : bytes[k]? = some b) (bad : Bool) :
    Calls Tryd.prog 26 #[.pointer (some ⟨h, 0, none⟩), .agg #[.int .i64 1, .int .i64 (u.1 : Int), .int .i64 (u.2 : Int), .bool bad]] w fun e w' => ∃ A mm cap, e = .returned (.tuple #[.slice A mm cap, .int .i64 0]) ∧ Own w' w.heap.size 5 A mm cap b ∧ Below w.heap.size w w' := by
  obtain ⟨S, U, y⟩ := x.hot.hot
  refine (hread_any x.hot.st hm y x.hot.ok hul x.hot.disk x.on x.hot.size x.tabs.crc (Nat.lt_of_lt_of_le x.tabs.c1 x.hB) 1 (u.1 : Int) (u.2 : Int) bad).mono ?_
  rintro e w' ⟨q, hf, hr⟩
  obtain ⟨j, rfl, hj⟩ := findP_its hu (isP_its u) hf
  obtain ⟨v', hv', hrr⟩ := hr
  rw [hj] at hv'
  injection hv' with hv'
  subst hv'
  obtain ⟨h1, h2, h3⟩ := x.held k u b hu hb
  have e : u = (u.1, costM b.length) := by rw [← h2]
  unfold ReadP at hrr
  rw [e] at h3 hrr
  rw [readM_holds h1 h3] at hrr
  exact hrr
theorem Hot1.readNo (x : Hot1 B w F H a h pm m n Hs segs used bytes) (hul : used.length ≤ 1000000000) (hm : m ≤ 1000000000) (d at_ len : Int) (bad : Bool) (hno : ∀ u ∈ used, isP 1 d at_ len u = false) :
    Calls Tryd.prog 26 #[.pointer (some ⟨h, 0, none⟩), .agg #[.int .i64 d, .int .i64 at_, .int .i64 len, .bool bad]] w fun e w' => e = .returned (.tuple #[.slice none 0 0, .int .i64 31]) ∧ Below w.heap.size w w' := by
  obtain ⟨S, U, y⟩ := x.hot.hot
  refine (hread_any x.hot.st hm y x.hot.ok hul x.hot.disk x.on x.hot.size x.tabs.crc (Nat.lt_of_lt_of_le x.tabs.c1 x.hB) d at_ len bad).mono ?_
  rintro e w' ⟨q, hf, hr⟩
  cases q with
  | none => exact hr
  | some k' =>
    obtain ⟨⟨v, hv, hpv⟩, _⟩ := hf
    rw [hno v (List.mem_of_getElem? hv)] at hpv
    cases hpv
end
/-- A hot disk, and the places that are kept beside it. -/
def One (B : Nat) (w : World) (a h m n : Nat) (used : List Pc) (bytes : List (List UInt8)) (K : List (Nat × Int × Int × Int)) : Prop := ∃ (F H : Nat → Prop) (pm : PM) (Hs : List (List UInt8)) (segs : List Nat),
  Hot1 B w F H a h pm m n Hs segs used bytes ∧ ∀ q ∈ K, Blk w q.1 36 (pcs q.2.1 q.2.2.1 q.2.2.2).toArray ∧ ¬ F q.1 ∧ ¬ H q.1
section
variable {B : Nat} {w w' : World} {a h m n : Nat} {used : List Pc} {bytes : List (List UInt8)} {K : List (Nat × Int × Int × Int)}
theorem One.below (x : One B w a h m n used bytes K) (hb : Below w.heap.size w w') : One B w' a h m n used bytes K := by
  obtain ⟨F, H, pm, Hs, segs, y, hk⟩ := x
  exact ⟨F, H, pm, Hs, segs, y.below hb, fun q hq => ⟨(hk q hq).1.below_ hb, (hk q hq).2⟩⟩
theorem One.blk (x : One B w a h m n used bytes K) {q : Nat × Int × Int × Int} (hq : q ∈ K) : Blk w q.1 36 (pcs q.2.1 q.2.2.1 q.2.2.2).toArray := by
  obtain ⟨F, H, pm, Hs, segs, y, hk⟩ := x
  exact (hk q hq).1
/-- One more place is kept, in a new block. -/
theorem One.keep (x : One B w a h m n used bytes K) (hb : Below w.heap.size w w') {g : Nat} {d at_ l : Int} (hg : w.heap.size ≤ g) (hk : Blk w' g 36 (pcs d at_ l).toArray) : One B w' a h m n used bytes ((g, d, at_, l) :: K) := by
  have x' := x.below hb
  obtain ⟨F, H, pm, Hs, segs, y, hkk⟩ := x
  refine ⟨F, H, pm, Hs, segs, y.below hb, fun q hq => ?_⟩
  rcases List.mem_cons.1 hq with rfl | hq
  · exact ⟨hk, fun hf => by have : g < w.heap.size := (y.hot.st.lt _ hf).2; omega, fun hf => by have : g < w.heap.size := (y.hot.lt _ hf).2; omega⟩
  · exact ⟨(hkk q hq).1.below_ hb, (hkk q hq).2⟩
theorem One.append (x : One B w a h m n used bytes K) (hm : m ≤ 900000000) (hul : used.length ≤ 1000000000) (A : Option Addr) (L cap : Nat) (bs : List UInt8) (hb : BAt w A bs) (hl : bs.length = L) (hL : L ≤ 512) {k : Nat} (hf : fitB used (n / 16) (costM L) = some k) :
    Calls Tryd.prog 15 #[.pointer (some ⟨h, 0, none⟩), .slice A L cap] w fun e w' => e = .returned (.tuple #[.agg (pcs 1 (k : Int) (costM L : Int)).toArray, .int .i64 0]) ∧ One B w' a h (m + 17) n (used ++ [(k, costM L)]) (bytes ++ [bs]) K ∧ Below B w w' := by
  obtain ⟨F, H, pm, Hs, segs, y, hk⟩ := x
  refine (y.append hm hul A L cap bs hb hl (by omega)).mono ?_
  rintro e w' (⟨h1, _⟩ | ⟨_, h2, _⟩ | ⟨k', h1, h2, rfl, F', H', pm', Hs', segs', hF', hH', hmo, z⟩)
  · omega
  · rw [hl, hf] at h2
    cases h2
  · rw [hl, hf] at h2
    injection h2 with h2
    subst h2
    rw [hl] at z ⊢
    refine ⟨rfl, ⟨F', H', pm', Hs', segs', z, fun q hq => ?_⟩, (hmo.mono y.hB fun _ _ h => h).below fun g hg hf => ?_⟩
    · obtain ⟨h3, h4, h5⟩ := hk q hq
      have := h3.lt
      refine ⟨h3.mods hmo this fun h => h.elim h4 h5, fun hf => ?_, fun hf => ?_⟩
      · rcases hF' _ hf with h | h
        · exact h4 h
        · omega
      · rcases hH' _ hf with h | h
        · exact h5 h
        · omega
    · rcases hf with hf | hf
      · have := (y.hot.st.lt g hf).1; omega
      · have := (y.hot.lt g hf).1; omega
theorem One.full (x : One B w a h m n used bytes K) (hm : m ≤ 900000000) (hul : used.length ≤ 1000000000) (A : Option Addr) (L cap : Nat) (bs : List UInt8) (hb : BAt w A bs) (hl : bs.length = L) (hL : L ≤ 512) (hf : fitB used (n / 16) (costM L) = none) :
    Calls Tryd.prog 15 #[.pointer (some ⟨h, 0, none⟩), .slice A L cap] w fun e w' => e = .returned (.tuple #[.agg (pcs 0 0 0).toArray, .int .i64 3]) ∧ Below w.heap.size w w' := by
  obtain ⟨F, H, pm, Hs, segs, y, hk⟩ := x
  refine (y.append hm hul A L cap bs hb hl (by omega)).mono ?_
  rintro e w' (⟨h1, _⟩ | ⟨_, h2, rfl, hb⟩ | ⟨k', h1, h2, _⟩)
  · omega
  · exact ⟨rfl, hb⟩
  · rw [hl, hf] at h2
    cases h2
theorem One.free (x : One B w a h m n used bytes K) (hul : used.length ≤ 1000000000) {k : Nat} {u : Pc} (hu : used[k]? = some u) (bad : Bool) :
    Calls Tryd.prog 17 #[.pointer (some ⟨h, 0, none⟩), .agg #[.int .i64 1, .int .i64 (u.1 : Int), .int .i64 (u.2 : Int), .bool bad]] w fun e w' => e = .returned (.int .i64 0) ∧ One B w' a h m n (used.eraseIdx k) (bytes.eraseIdx k) K ∧ Below B w w' := by
  obtain ⟨F, H, pm, Hs, segs, y, hk⟩ := x
  refine (y.free hul hu bad).mono ?_
  rintro e w' ⟨rfl, segs', z, hmo⟩
  exact ⟨rfl, ⟨F, H, pm, Hs, segs', z, fun q hq => ⟨(hk q hq).1.mods hmo (hk q hq).1.lt (hk q hq).2.2, (hk q hq).2⟩⟩, (hmo.mono y.hB fun _ _ h => h).below fun g hg hf => by have := (y.hot.lt g hf).1; omega⟩
theorem One.read (x : One B w a h m n used bytes K) (hul : used.length ≤ 1000000000) (hm : m ≤ 1000000000) {k : Nat} {u : Pc} {b : List UInt8} (hu : used[k]? = some u) (hb : bytes[k]? = some b) (bad : Bool) :
    Calls Tryd.prog 26 #[.pointer (some ⟨h, 0, none⟩), .agg #[.int .i64 1, .int .i64 (u.1 : Int), .int .i64 (u.2 : Int), .bool bad]] w fun e w' => ∃ A mm cap, e = .returned (.tuple #[.slice A mm cap, .int .i64 0]) ∧ mm = b.length ∧ Below w.heap.size w w' := by
  obtain ⟨F, H, pm, Hs, segs, y, hk⟩ := x
  refine (y.read hul hm hu hb bad).mono ?_
  rintro e w' ⟨A, mm, cap, rfl, ho, hb⟩
  exact ⟨A, mm, cap, rfl, ho.len.symm, hb⟩
theorem One.readNo (x : One B w a h m n used bytes K) (hul : used.length ≤ 1000000000) (hm : m ≤ 1000000000) (d at_ len : Int) (bad : Bool) (hno : ∀ u ∈ used, isP 1 d at_ len u = false) :
    Calls Tryd.prog 26 #[.pointer (some ⟨h, 0, none⟩), .agg #[.int .i64 d, .int .i64 at_, .int .i64 len, .bool bad]] w fun e w' => e = .returned (.tuple #[.slice none 0 0, .int .i64 31]) ∧ Below w.heap.size w w' := by
  obtain ⟨F, H, pm, Hs, segs, y, hk⟩ := x
  exact y.readNo hul hm d at_ len bad hno
end
end Go.Proofs.YtgcckfaljfkkhaaDoor.Hot
