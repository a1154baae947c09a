/- The law's 'begun': a stand on a disk of so many sectors. -/
import Derived.Test.YtgcckfaljfkkhaaDoorHotOpened
namespace Go.Proofs.YtgcckfaljfkkhaaDoor.Hot
open Go Go.RowKit Mem Pl Disk Crc _root_.Go.Proofs.YtgcckfaljfkkhaaDoor.Frame
/-- The tables lie below what the law makes. -/
theorem begun_st {w w1 w' : World} {B a n : Nat} (h1 : 1 ≤ n) (h4 : n ≤ 4096) (hp : PlantAt w1 (New w w1) a (hotPM n)) (hb : Below w1.heap.size w1 w') (hB : B ≤ w.heap.size) : St B w' (New w w1) a (hotPM n) 0 :=
  ⟨hp.mods (Mods.of_below (F := fun _ => False) hb) (fun _g hg _ => ⟨hg, fun y => y⟩), (hotPM_ok h1 h4).1, fun _g hg => ⟨Nat.le_trans hB hg.1, Nat.lt_of_lt_of_le hg.2 hb.size⟩, Nat.le_refl _, Nat.le_refl _⟩
set_option maxRecDepth 100000 in
set_option maxHeartbeats 4000000 in
theorem begun_any {B : Nat} (w : World) (n : Nat) (h1 : 1 ≤ n) (h4 : n ≤ 4096) (ht : Tabs B w) (hB : B ≤ w.heap.size) :
    Calls Tryd.prog 16 #[.int .i64 (n : Int)] w fun e w' => ∃ s a h r F H G segs, e = .returned (.pointer (some ⟨s, 0, none⟩)) ∧ StandB B w' s a h r F H G (hotPM n) 0 n (List.replicate n zeros) segs [] [] [] 0 0 ∧ segs.length = n / 16 ∧ w.heap.size ≤ s ∧ Below w.heap.size w w' := by
  have HT := Lib.hid ht
  clear ht
  have hM := made_any w n h1 h4
  have hd2 : (hotPM n).disks = [1, n] := rfl
  go_enter Tryd.func16, Tryd.ntmps16
  go_wp2_with fail
  refine hM.mono ?_
  clear hM
  rintro e w1 ⟨a, rfl, hp, hb1⟩
  have HP := Lib.hid hp
  have HB1 := Lib.hid hb1
  have HO := Lib.hid (hopen_any hp (hotPM_ok h1 h4).1 1 none 0 0 [] (fun k p h => by simp at h) rfl (by omega))
  clear hp hb1
  go_wp2_with fail
  refine HO.out.mono ?_
  rintro e w2 ⟨hb2, ⟨hno, _⟩ | ⟨d, n', hd, hn', hr⟩⟩
  · exact absurd ⟨by omega, by rw [hd2]; simp⟩ hno
  obtain rfl : d = 1 := by omega
  rw [hd2] at hn'
  obtain rfl : n = n' := by simpa using hn'
  rcases hr with ⟨h, _⟩ | ⟨used, h, segs, hu, rfl, hh, hok, hsl⟩
  · cases h
  have hu' : used = [] := by injection hu with hu; exact hu.symm
  subst hu'
  have HH := Lib.hid hh
  have HOK := Lib.hid hok
  have HSL := Lib.hid hsl
  have HB2 := Lib.hid hb2
  clear hh hok hsl hb2 hu hn' hd HO hd2
  have hba : Below w2.heap.size w2 (w2.alloc (.cells #[.int .i64 1, .int .i64 (n : Int)] 3)) := below_al' _
  have HBA := Lib.hid hba
  have HR := Lib.hid (ropen_any (w := w2.alloc (.cells #[.int .i64 1, .int .i64 (n : Int)] 3)) [1, n] (some ⟨w2.heap.size, 0, none⟩) 2 2 (iat_row w2 [1, (n : Int)] _ rfl _) rfl (by intro z hz; simp at hz; omega) 1 none 0 0 [] (fun k p h => by simp at h) rfl (by omega))
  clear hba
  go_wp2_with fail
  refine HR.out.mono ?_
  rintro e w3 ⟨hb3, ⟨hno, _⟩ | ⟨d, n', hd, hn', hr⟩⟩
  · exact absurd ⟨by omega, by simp⟩ hno
  obtain rfl : d = 1 := by omega
  obtain rfl : n = n' := by simpa using hn'
  rcases hr with ⟨h, _⟩ | ⟨used, r, hu, rfl, hrr, _⟩
  · cases h
  have hu' : used = [] := by injection hu with hu; exact hu.symm
  subst hu'
  have HRR := Lib.hid hrr
  have HB3 := Lib.hid hb3
  clear hrr hb3 hu hn' hd HR
  go_wp2_with fail
  go_ret
  have hs1 := HB1.out.size
  have hs2 := HB2.out.size
  have hsA := HBA.out.size
  have hs3 := HB3.out.size
  have hb23 : Below w2.heap.size w2 w3 := HBA.out.trans (HB3.out.mono hsA)
  have hba : Below w3.heap.size w3 (w3.alloc (.cells #[.pointer (some ⟨a, 0, none⟩), .pointer (some ⟨h, 0, none⟩), .pointer (some ⟨r, 0, none⟩), .int .i64 0, .int .i64 0] 47)) := below_al' _
  have hsz : (w3.alloc (.cells #[.pointer (some ⟨a, 0, none⟩), .pointer (some ⟨h, 0, none⟩), .pointer (some ⟨r, 0, none⟩), .int .i64 0, .int .i64 0] 47)).heap.size = w3.heap.size + 1 := by simp
  have hb2f := hb23.trans (hba.mono (Nat.le_trans hsA hs3))
  have hb1f := HB2.out.trans (hb2f.mono hs2)
  have hbf := HB1.out.trans (hb1f.mono hs1)
  refine ⟨_, a, h, r, New w w1, New w1 w2, New (w2.alloc (.cells #[.int .i64 1, .int .i64 (n : Int)] 3)) w3, segs, rfl, ⟨Blk.new w3 _ _, by omega, ⟨begun_st h1 h4 HP.out hb1f hB, hotPM_disk n, HH.out.below hb2f, HOK.out, HSL.out.symm, fun g hg => ⟨by have := hg.1; omega, by have := hg.2; omega⟩, fun g hf hg => by have := hf.2; have := hg.1; omega⟩, List.Perm.refl _, HRR.out.below hba, fun g hg => ⟨by have := hg.1; omega, by have := hg.2; omega⟩, fun g hf hg => by have := hf.2; have := hg.1; omega, fun g hf hg => by have := hf.2; have := hg.1; omega, fun hf => by have := hf.2; omega, fun hf => by have := hf.2; omega, fun hf => by have := hf.2; omega, HT.out.below hbf hB, by omega, rfl, fun k u b hu => by simp at hu, Room.nil _, h1, h4⟩, HSL.out, by omega, hbf⟩
end Go.Proofs.YtgcckfaljfkkhaaDoor.Hot
/- What giving up a place does to both orders of places; and what the stand is behind it. No program. -/
namespace Go.Proofs.YtgcckfaljfkkhaaDoor.Hot
open Go Go.RowKit Mem Pl Disk Crc _root_.Go.Proofs.YtgcckfaljfkkhaaDoor.Frame
theorem perm_cons_erase {α : Type} {l : List α} {k : Nat} {x : α} (h : l[k]? = some x) : l.Perm (x :: l.eraseIdx k) := by
  obtain ⟨hk, e⟩ := List.getElem?_eq_some_iff.1 h
  rw [List.eraseIdx_eq_take_drop_succ]
  have e2 : l = l.take k ++ x :: l.drop (k + 1) := by
    rw [← e, ← List.drop_eq_getElem_cons hk, List.take_append_drop]
  exact (List.Perm.of_eq e2).trans List.perm_middle
theorem erase_perm {α : Type} {l m : List α} {i k : Nat} {x : α} (hp : l.Perm m) (hl : l[i]? = some x) (hm : m[k]? = some x) : (l.eraseIdx i).Perm (m.eraseIdx k) :=
  List.Perm.cons_inv ((perm_cons_erase hl).symm.trans (hp.trans (perm_cons_erase hm)))
theorem find_used {used : List Pc} {u : Pc} {k : Nat} (h : FindIs used (isP 1 1 (u.1 : Int) (u.2 : Int)) (some k)) : used[k]? = some u := by
  obtain ⟨⟨v, hv, hp⟩, _⟩ := h
  obtain ⟨_, e1, e2⟩ := isP_true hp
  have a1 : v.1 = u.1 := by omega
  have a2 : v.2 = u.2 := by omega
  rw [hv, Prod.ext a1 a2]
theorem mem_eraseIdx_of {α : Type} {l : List α} {k : Nat} {x : α} (h : x ∈ l.eraseIdx k) : x ∈ l := List.mem_of_mem_eraseIdx h
end Go.Proofs.YtgcckfaljfkkhaaDoor.Hot
/- The stand in memory alone, step by step. -/
namespace Go.Proofs.YtgcckfaljfkkhaaDoor.Hot
open Go Go.RowKit Mem Pl Disk Crc _root_.Go.Proofs.YtgcckfaljfkkhaaDoor.Frame
structure StandM (B : Nat) (w : World) (s a h r : Nat) (F H G : Nat → Prop) (pm : PM) (m n : Nat) (Hs : List (List UInt8)) (ws : Ws) (segs : List Nat) (hsed used : List Pc) (bytes : List (List UInt8)) (ever dims : Nat) : Prop where
  blk : Blk w s 47 #[.pointer (some ⟨a, 0, none⟩), .pointer (some ⟨h, 0, none⟩), .pointer (some ⟨r, 0, none⟩), .int .i64 (ever : Int), .int .i64 (dims : Int)]
  sB : B ≤ s
  hot : HotSt B w F H a h pm m 1 n Hs ws segs hsed
  ref : RHotAt w G r 1 n used bytes
  lt : ∀ g, G g → B ≤ g ∧ g < w.heap.size
  fg : ∀ g, F g → ¬ G g
  hg : ∀ g, H g → ¬ G g
  sF : ¬ F s
  sH : ¬ H s
  sG : ¬ G s
  tabs : Tabs B w
  hB : B ≤ w.heap.size
section
variable {B : Nat} {w w' : World} {s a h r : Nat} {F H G K F' H' : Nat → Prop} {pm pm' : PM} {m m' n : Nat} {Hs Hs' : List (List UInt8)} {ws ws' : Ws} {segs segs' : List Nat} {hsed hsed' used used' : List Pc} {bytes bytes' : List (List UInt8)} {ever dims : Nat}
theorem StandB.mem (x : StandB B w s a h r F H G pm m n Hs segs hsed used bytes ever dims) : StandM B w s a h r F H G pm m n Hs [] segs hsed used bytes ever dims :=
  ⟨x.blk, x.sB, x.hot, x.ref, x.lt, x.fg, x.hg, x.sF, x.sH, x.sG, x.tabs, x.hB⟩
theorem StandM.all (x : StandM B w s a h r F H G pm m n Hs [] segs hsed used bytes ever dims) (hp : hsed.Perm used) (hon : pm.off = false) (hh : Held1 Hs used bytes) (hr : Room segs.length ever used) (h1 : 1 ≤ n) (h4 : n ≤ 4096) : StandB B w s a h r F H G pm m n Hs segs hsed used bytes ever dims :=
  ⟨x.blk, x.sB, x.hot, hp, x.ref, x.lt, x.fg, x.hg, x.sF, x.sH, x.sG, x.tabs, x.hB, hon, hh, hr, h1, h4⟩
theorem StandM.below (x : StandM B w s a h r F H G pm m n Hs ws segs hsed used bytes ever dims) (hb : Below w.heap.size w w') : StandM B w' s a h r F H G pm m n Hs ws segs hsed used bytes ever dims :=
  ⟨x.blk.below_ hb, x.sB, x.hot.below hb, x.ref.below hb, fun g hg => ⟨(x.lt g hg).1, Nat.lt_of_lt_of_le (x.lt g hg).2 hb.size⟩, x.fg, x.hg, x.sF, x.sH, x.sG, x.tabs.below hb x.hB, Nat.le_trans x.hB hb.size⟩
/-- The plant and the hot disk have taken a step. -/
theorem StandM.hotStep (x : StandM B w s a h r F H G pm m n Hs ws segs hsed used bytes ever dims) (hy : HotSt B w' F' H' a h pm' m' 1 n Hs' ws' segs' hsed') (hm : Mods w.heap.size (fun g => F g ∨ H g) w w') (hF : ∀ g, F' g → F g ∨ w.heap.size ≤ g) (hH : ∀ g, H' g → H g ∨ w.heap.size ≤ g) :
    StandM B w' s a h r F' H' G pm' m' n Hs' ws' segs' hsed' used bytes ever dims := by
  have hs := x.blk.lt
  have hlt := fun g hg => (x.hot.st.lt g hg).1
  refine ⟨x.blk.mods hm hs (fun h => h.elim x.sF x.sH), x.sB, hy, x.ref.mods hm (fun g hg hG => ⟨hg, fun h => h.elim (fun h => x.fg g h hG) (fun h => x.hg g h hG)⟩), fun g hg => ⟨(x.lt g hg).1, Nat.lt_of_lt_of_le (x.lt g hg).2 hm.size⟩, fun g hf hG => ?_, fun g hf hG => ?_, fun hf => ?_, fun hf => ?_, x.sG, x.tabs.mods hm (fun g h => h.elim (fun h => (x.hot.st.lt g h).1) (fun h => (x.hot.lt g h).1)) x.hB, Nat.le_trans x.hB hm.size⟩
  · rcases hF g hf with h | h
    · exact x.fg g h hG
    · have := (x.lt g hG).2; omega
  · rcases hH g hf with h | h
    · exact x.hg g h hG
    · have := (x.lt g hG).2; omega
  · rcases hF s hf with h | h
    · exact x.sF h
    · omega
  · rcases hH s hf with h | h
    · exact x.sH h
    · omega
/-- The reference has taken a step. -/
theorem StandM.refStep (x : StandM B w s a h r F H G pm m n Hs ws segs hsed used bytes ever dims) (hy : RHotAt w' (Grow G w w') r 1 n used' bytes') (hm : Mods w.heap.size G w w') : StandM B w' s a h r F H (Grow G w w') pm m n Hs ws segs hsed used' bytes' ever dims := by
  have hs := x.blk.lt
  refine ⟨x.blk.mods hm hs x.sG, x.sB, x.hot.mods hm x.fg x.hg, hy, fun g hg => ?_, fun g hf hG => ?_, fun g hf hG => ?_, x.sF, x.sH, fun hG => ?_, x.tabs.mods hm (fun g h => (x.lt g h).1) x.hB, Nat.le_trans x.hB hm.size⟩
  · rcases hg with h | h
    · exact ⟨(x.lt g h).1, Nat.lt_of_lt_of_le (x.lt g h).2 hm.size⟩
    · exact ⟨Nat.le_trans x.hB h.1, h.2⟩
  · rcases hG with h | h
    · exact x.fg g hf h
    · have := (x.hot.st.lt g hf).2; have := h.1; omega
  · rcases hG with h | h
    · exact x.hg g hf h
    · have := (x.hot.lt g hf).2; have := h.1; omega
  · rcases hG with h | h
    · exact x.sG h
    · have := h.1; omega
/-- What is written elsewhere leaves it. -/
theorem StandM.mods (x : StandM B w s a h r F H G pm m n Hs ws segs hsed used bytes ever dims) (hm : Mods w.heap.size K w w') (hF : ∀ g, F g → ¬ K g) (hH : ∀ g, H g → ¬ K g) (hG : ∀ g, G g → ¬ K g) (hs : ¬ K s) (hK : ∀ g, K g → B ≤ g) : StandM B w' s a h r F H G pm m n Hs ws segs hsed used bytes ever dims :=
  ⟨x.blk.mods hm x.blk.lt hs, x.sB, x.hot.mods hm hF hH, x.ref.mods hm (fun g hg hh => ⟨hg, hG g hh⟩), fun g hg => ⟨(x.lt g hg).1, Nat.lt_of_lt_of_le (x.lt g hg).2 hm.size⟩, x.fg, x.hg, x.sF, x.sH, x.sG, x.tabs.mods hm hK x.hB, Nat.le_trans x.hB hm.size⟩
/-- A number of the stand's own is set. -/
theorem StandM.set_ (x : StandM B w s a h r F H G pm m n Hs ws segs hsed used bytes ever dims) (i : Nat) (v : Value) {ever' dims' : Nat} (hb : Blk (w.setCell ⟨s, i, none⟩ v) s 47 #[.pointer (some ⟨a, 0, none⟩), .pointer (some ⟨h, 0, none⟩), .pointer (some ⟨r, 0, none⟩), .int .i64 (ever' : Int), .int .i64 (dims' : Int)]) : StandM B (w.setCell ⟨s, i, none⟩ v) s a h r F H G pm m n Hs ws segs hsed used bytes ever' dims' := by
  have hm : Mods w.heap.size (fun g => g = s) w (w.setCell ⟨s, i, none⟩ v) := Mods.setCell (F := fun g => g = s) (p := ⟨s, i, none⟩) (Mods.refl _ _ _) (.inl rfl) _
  have hF : ∀ g, F g → ¬ g = s := fun g hg e => x.sF (e ▸ hg)
  have hH : ∀ g, H g → ¬ g = s := fun g hg e => x.sH (e ▸ hg)
  have hG : ∀ g, G g → ¬ g = s := fun g hg e => x.sG (e ▸ hg)
  exact ⟨hb, x.sB, x.hot.mods hm hF hH, x.ref.mods hm (fun g hg hh => ⟨hg, hG g hh⟩), fun g hg => ⟨(x.lt g hg).1, Nat.lt_of_lt_of_le (x.lt g hg).2 hm.size⟩, x.fg, x.hg, x.sF, x.sH, x.sG, x.tabs.mods hm (fun g e => by rw [e]; exact x.sB) x.hB, Nat.le_trans x.hB hm.size⟩
end
end Go.Proofs.YtgcckfaljfkkhaaDoor.Hot
/- What the stand's 'append' needs beside the walk. -/
namespace Go.Proofs.YtgcckfaljfkkhaaDoor.Hot
open Go Go.RowKit Mem Pl Disk Crc _root_.Go.Proofs.YtgcckfaljfkkhaaDoor.Frame
theorem BAt.mods {w w' : World} {A : Option Addr} {bs : List UInt8} {B : Nat} {F : Nat → Prop} (h : BAt w A bs) (hm : Mods B F w w') (hB : w.heap.size ≤ B) (hn : bs ≠ [] → ∀ ad, A = some ad → ¬ F ad.block) : BAt w' A bs :=
  h.keep fun ad k v hA hk hv => by
    have hlt := cell_lt hv
    have hb : (ad.add k).block = ad.block := by unfold Addr.add; split <;> rfl
    have hk := hm.keep (ad.add k).block (Nat.lt_of_lt_of_le hlt hB) (by
      rw [hb]
      exact hn (by rintro rfl; simp at hk) ad hA)
    simp only [World.cell?] at hv ⊢
    rw [hk]
    exact hv
/-- A row beside the stand. -/
def Aside (w : World) (s : Nat) (F H G : Nat → Prop) (A : Option Addr) : Prop := ∀ ad, A = some ad → ad.block < w.heap.size ∧ ¬ F ad.block ∧ ¬ H ad.block ∧ ¬ G ad.block ∧ ad.block ≠ s
/-- Places as cells. -/
def pcs (d a l : Int) : List Value := [.int .i64 d, .int .i64 a, .int .i64 l, .bool false]
theorem pcs_one (d a l : Int) : ∀ u ∈ pcs d a l, u.oneCell' = true := by
  intro u hu
  simp [pcs] at hu
  rcases hu with rfl | rfl | rfl | rfl <;> rfl
section
variable {B : Nat} {w w' : World} {s a h r : Nat} {F H G K F' H' : Nat → Prop} {pm pm' : PM} {m m' n dev N : Nat} {Hs Hs' : List (List UInt8)} {ws ws' : Ws} {segs segs' : List Nat} {hsed used vsed : List Pc} {bytes : List (List UInt8)} {bs : List UInt8} {ever dims : Nat}
theorem occ_perm (hp : used.Perm vsed) (k : Nat) : Occ used k ↔ Occ vsed k :=
  ⟨fun ⟨u, hu, h⟩ => ⟨u, hp.mem_iff.1 hu, h⟩, fun ⟨u, hu, h⟩ => ⟨u, hp.mem_iff.2 hu, h⟩⟩
theorem free1_perm (hp : used.Perm vsed) {nseg c k : Nat} (h : Free1 used nseg c k) : Free1 vsed nseg c k := ⟨h.1, fun j h1 h2 ho => h.2 j h1 h2 ((occ_perm hp j).2 ho)⟩
theorem FitIs.perm (hp : used.Perm vsed) {nseg c : Nat} {q : Option Nat} (h : FitIs used nseg c q) : FitIs vsed nseg c q := by
  cases q with
  | none => exact fun b hb => h b (free1_perm hp.symm hb)
  | some k => exact ⟨free1_perm hp h.1, fun b hb hf => h.2 b hb (free1_perm hp.symm hf)⟩
/-- What 'Append' answers. -/
theorem AppP.shape {e : Ending} (h : AppP B w F H a s pm m dev N Hs segs used bs e w') : ∃ d at_ l code, e = .returned (.tuple #[.agg (pcs d at_ l).toArray, .int .i64 code]) ∧ Mods w.heap.size (fun g => F g ∨ H g) w w' := by
  rcases h with ⟨_, rfl, hb⟩ | ⟨_, _, rfl, hb⟩ | ⟨k, _, _, F', H', pm', _, _, hm, ⟨rfl, _⟩ | ⟨rfl, _⟩⟩
  · exact ⟨0, 0, 0, 5, rfl, Mods.of_below hb⟩
  · exact ⟨0, 0, 0, 3, rfl, Mods.of_below hb⟩
  · exact ⟨_, _, _, 0, rfl, hm⟩
  · exact ⟨0, 0, 0, 2, rfl, hm⟩
/-- The stand behind 'Append' of bytes that are not too long. -/
def AppV (B : Nat) (w' : World) (s a h r : Nat) (F H G : Nat → Prop) (pm : PM) (m n : Nat) (Hs : List (List UInt8)) (segs : List Nat) (hsed used : List Pc) (bytes : List (List UInt8)) (ever dims : Nat) (bs : List UInt8) (lo : Nat) (d at_ l code : Int) : Prop :=
  (FitIs used (n / 16) (costM bs.length) none ∧ d = 0 ∧ at_ = 0 ∧ l = 0 ∧ code = 3 ∧ StandB B w' s a h r F H G pm m n Hs segs hsed used bytes ever dims) ∨
  (∃ k : Nat, FitIs used (n / 16) (costM bs.length) (some k) ∧ d = 1 ∧ at_ = (k : Int) ∧ l = (costM bs.length : Int) ∧ code = 0 ∧ ∃ (F' H' : Nat → Prop) (pm' : PM) (segs' : List Nat),
    (∀ g, F' g → F g ∨ lo ≤ g) ∧ (∀ g, H' g → H g ∨ lo ≤ g) ∧ pm'.off = false ∧ segs'.length = segs.length ∧ StandM B w' s a h r F' H' G pm' (m + 17) n (setAll (wsM k (textM bs) (costM bs.length)) Hs) [] segs' (hsed ++ [(k, costM bs.length)]) used bytes ever dims) ∨
  (∃ k : Nat, FitIs used (n / 16) (costM bs.length) (some k) ∧ d = 0 ∧ at_ = 0 ∧ l = 0 ∧ code = 2 ∧ ∃ (F' H' : Nat → Prop) (pm' : PM) (i : Nat),
    (∀ g, F' g → F g ∨ lo ≤ g) ∧ (∀ g, H' g → H g ∨ lo ≤ g) ∧ pm'.off = true ∧ i ≤ costM bs.length ∧ StandM B w' s a h r F' H' G pm' (m + 17) n Hs (wsM k (textM bs) i) segs hsed used bytes ever dims)
/-- The stand behind 'Append'. -/
def AppW (B : Nat) (w' : World) (s a h r : Nat) (F H G : Nat → Prop) (pm : PM) (m n : Nat) (Hs : List (List UInt8)) (segs : List Nat) (hsed used : List Pc) (bytes : List (List UInt8)) (ever dims : Nat) (bs : List UInt8) (lo : Nat) (d at_ l code : Int) : Prop :=
  (512 < bs.length ∧ d = 0 ∧ at_ = 0 ∧ l = 0 ∧ code = 5 ∧ StandB B w' s a h r F H G pm m n Hs segs hsed used bytes ever dims) ∨
  (bs.length ≤ 512 ∧ AppV B w' s a h r F H G pm m n Hs segs hsed used bytes ever dims bs lo d at_ l code)
theorem AppV.blk {lo : Nat} {d at_ l code : Int} (x : AppV B w s a h r F H G pm m n Hs segs hsed used bytes ever dims bs lo d at_ l code) :
    Blk w s 47 #[.pointer (some ⟨a, 0, none⟩), .pointer (some ⟨h, 0, none⟩), .pointer (some ⟨r, 0, none⟩), .int .i64 (ever : Int), .int .i64 (dims : Int)] := by
  rcases x with ⟨_, _, _, _, _, y⟩ | ⟨k, _, _, _, _, _, F', H', pm', segs', _, _, _, _, y⟩ | ⟨k, _, _, _, _, _, F', H', pm', i, _, _, _, _, y⟩ <;> exact y.blk
theorem StandB.set3 (x : StandB B w s a h r F H G pm m n Hs segs hsed used bytes ever dims) (c : Nat) : StandB B (w.setCell ⟨s, 3, none⟩ (.int .i64 ((ever + c : Nat) : Int))) s a h r F H G pm m n Hs segs hsed used bytes (ever + c) dims :=
  (x.mem.set_ 3 _ (ever' := ever + c) (dims' := dims) (by have := x.blk.set_ 3 (.int .i64 ((ever + c : Nat) : Int)); simpa using this)).all x.perm x.on x.held (x.room.more (Nat.le_add_right _ _)) x.n1 x.n4
theorem StandM.set3 (x : StandM B w s a h r F H G pm m n Hs ws segs hsed used bytes ever dims) (c : Nat) : StandM B (w.setCell ⟨s, 3, none⟩ (.int .i64 ((ever + c : Nat) : Int))) s a h r F H G pm m n Hs ws segs hsed used bytes (ever + c) dims :=
  x.set_ 3 _ (ever' := ever + c) (dims' := dims) (by have := x.blk.set_ 3 (.int .i64 ((ever + c : Nat) : Int)); simpa using this)
theorem StandM.set4 (x : StandM B w s a h r F H G pm m n Hs ws segs hsed used bytes ever dims) (c : Nat) : StandM B (w.setCell ⟨s, 4, none⟩ (.int .i64 ((dims + c : Nat) : Int))) s a h r F H G pm m n Hs ws segs hsed used bytes ever (dims + c) :=
  x.set_ 4 _ (ever' := ever) (dims' := dims + c) (by have := x.blk.set_ 4 (.int .i64 ((dims + c : Nat) : Int)); simpa using this)
theorem AppV.spent {lo : Nat} {d at_ l code : Int} (x : AppV B w s a h r F H G pm m n Hs segs hsed used bytes ever dims bs lo d at_ l code) (hb : Below w.heap.size w w') (c : Nat) :
    AppV B (w'.setCell ⟨s, 3, none⟩ (.int .i64 ((ever + c : Nat) : Int))) s a h r F H G pm m n Hs segs hsed used bytes (ever + c) dims bs lo d at_ l code := by
  rcases x with ⟨h1, h2, h3, h4, h5, y⟩ | ⟨k, h1, h2, h3, h4, h5, F', H', pm', segs', h6, h7, h8, h9, y⟩ | ⟨k, h1, h2, h3, h4, h5, F', H', pm', i, h6, h7, h8, h9, y⟩
  · exact .inl ⟨h1, h2, h3, h4, h5, (y.below hb).set3 c⟩
  · exact .inr (.inl ⟨k, h1, h2, h3, h4, h5, F', H', pm', segs', h6, h7, h8, h9, (y.below hb).set3 c⟩)
  · exact .inr (.inr ⟨k, h1, h2, h3, h4, h5, F', H', pm', i, h6, h7, h8, h9, (y.below hb).set3 c⟩)
theorem AppV.below {lo : Nat} {d at_ l code : Int} (x : AppV B w s a h r F H G pm m n Hs segs hsed used bytes ever dims bs lo d at_ l code) (hb : Below w.heap.size w w') :
    AppV B w' s a h r F H G pm m n Hs segs hsed used bytes ever dims bs lo d at_ l code := by
  rcases x with ⟨h1, h2, h3, h4, h5, y⟩ | ⟨k, h1, h2, h3, h4, h5, F', H', pm', segs', h6, h7, h8, h9, y⟩ | ⟨k, h1, h2, h3, h4, h5, F', H', pm', i, h6, h7, h8, h9, y⟩
  · exact .inl ⟨h1, h2, h3, h4, h5, y.below hb⟩
  · exact .inr (.inl ⟨k, h1, h2, h3, h4, h5, F', H', pm', segs', h6, h7, h8, h9, y.below hb⟩)
  · exact .inr (.inr ⟨k, h1, h2, h3, h4, h5, F', H', pm', i, h6, h7, h8, h9, y.below hb⟩)
/-- Append's step, and what is written elsewhere behind it. -/
theorem StandB.app {w1 w2 : World} {d at_ l code : Int} (x : StandB B w s a h r F H G pm m n Hs segs hsed used bytes ever dims) (hp : AppP B w F H a h pm m 1 n Hs segs hsed bs (.returned (.tuple #[.agg (pcs d at_ l).toArray, .int .i64 code])) w1)
    (hm : Mods w1.heap.size K w1 w2) (hF : ∀ g, F g → ¬ K g) (hH : ∀ g, H g → ¬ K g) (hG : ∀ g, G g → ¬ K g) (hs : ¬ K s) (hK : ∀ g, K g → B ≤ g ∧ g < w.heap.size) :
    AppW B w2 s a h r F H G pm m n Hs segs hsed used bytes ever dims bs w.heap.size d at_ l code := by
  rcases hp with ⟨h1, h2, h3⟩ | ⟨h1, hf, h2, h3⟩ | ⟨k, h1, hf, F', H', pm', hF', hH', hm', ⟨h2, h3, _, segs', h4, h5⟩ | ⟨h2, h3, _, i, hi, h5⟩⟩
  · simp only [noP, pcs] at h2
    simp at h2
    obtain ⟨⟨rfl, rfl, rfl⟩, rfl⟩ := h2
    exact .inl ⟨h1, rfl, rfl, rfl, rfl, (x.below h3).mods hm hF hH hG hs fun g hg => (hK g hg).1⟩
  · simp only [noP, pcs] at h2
    simp at h2
    obtain ⟨⟨rfl, rfl, rfl⟩, rfl⟩ := h2
    refine .inr ⟨h1, .inl ⟨?_, rfl, rfl, rfl, rfl, (x.below h3).mods hm hF hH hG hs fun g hg => (hK g hg).1⟩⟩
    rw [x.hot.size]
    exact hf.perm x.perm
  · simp only [pcs] at h2
    simp at h2
    obtain ⟨⟨rfl, rfl, rfl⟩, rfl⟩ := h2
    refine .inr ⟨h1, .inr (.inl ⟨k, ?_, rfl, rfl, rfl, rfl, F', H', pm', segs', hF', hH', h3, h4, ?_⟩)⟩
    · rw [x.hot.size]
      exact hf.perm x.perm
    · refine (x.mem.hotStep h5 hm' hF' hH').mods hm (fun g hg hk => ?_) (fun g hg hk => ?_) hG hs fun g hg => (hK g hg).1
      · rcases hF' g hg with h | h
        · exact hF g h hk
        · have := (hK g hk).2; omega
      · rcases hH' g hg with h | h
        · exact hH g h hk
        · have := (hK g hk).2; omega
  · simp only [noP, pcs] at h2
    simp at h2
    obtain ⟨⟨rfl, rfl, rfl⟩, rfl⟩ := h2
    refine .inr ⟨h1, .inr (.inr ⟨k, ?_, rfl, rfl, rfl, rfl, F', H', pm', i, hF', hH', h3, hi, ?_⟩)⟩
    · rw [x.hot.size]
      exact hf.perm x.perm
    · refine (x.mem.hotStep h5 hm' hF' hH').mods hm (fun g hg hk => ?_) (fun g hg hk => ?_) hG hs fun g hg => (hK g hg).1
      · rcases hF' g hg with h | h
        · exact hF g h hk
        · have := (hK g hk).2; omega
      · rcases hH' g hg with h | h
        · exact hH g h hk
        · have := (hK g hk).2; omega
/-- The power came on again. -/
theorem StandM.booted {keep : List Int} (x : StandM B w s a h r F H G pm m n Hs ws segs hsed used bytes ever dims) (hg : Gone B w F a (pm.boot keep) m w') :
    ∃ vs : Ws, vs.Sublist ws ∧ StandM B w' s a h r (Grow F w w') H G (pm.boot keep) (m + 1) n (setAll vs Hs) [] segs hsed used bytes ever dims := by
  obtain ⟨hst, hm⟩ := hg
  obtain ⟨vs, hd, hsub⟩ := x.hot.disk.boot keep
  refine ⟨vs, hsub, x.hotStep (F' := Grow F w w') (H' := H) ⟨hst, hd, ?_, x.hot.ok, x.hot.size, fun g hg => ⟨(x.hot.lt g hg).1, Nat.lt_of_lt_of_le (x.hot.lt g hg).2 hm.size⟩, fun g hf hH => ?_⟩ (hm.mono (Nat.le_refl _) fun g _ hf => .inl hf) (fun g hf => hf.imp id (fun h => h.1)) (fun g hg => .inl hg)⟩
  · exact x.hot.hot.mods hm fun g hg hH => ⟨hg, fun hf => x.hot.apart g hf hH⟩
  · rcases hf with h | h
    · exact x.hot.apart g h hH
    · have := (x.hot.lt g hH).2; have := h.1; omega
theorem Held1.booted {k i nseg : Nat} {t : List UInt8} {vs : Ws} (hh : Held1 Hs used bytes) {c : Nat} (hf : FitIs used nseg c (some k)) (hi : i ≤ c) (hsub : vs.Sublist (wsM k t i)) : Held1 (setAll vs Hs) used bytes :=
  hh.writes hf.1 fun y hy => by
    have := wsM_in (hsub.subset hy)
    omega
end
/-- Some stand on this plant, within bounds. -/
def Stood (B : Nat) (w : World) (s a r n m ever dims k : Nat) : Prop := ∃ (h : Nat) (F H G : Nat → Prop) (pm : PM) (m' : Nat) (Hs : List (List UInt8)) (segs : List Nat) (hsed used : List Pc) (bytes : List (List UInt8)) (ever' dims' : Nat),
  StandB B w s a h r F H G pm m' n Hs segs hsed used bytes ever' dims' ∧ m' ≤ m ∧ ever' ≤ ever ∧ dims' ≤ dims ∧ used.length ≤ k
end Go.Proofs.YtgcckfaljfkkhaaDoor.Hot
/- The stand's calls of Read and Free, and of the reference's Drop. -/
namespace Go.Proofs.YtgcckfaljfkkhaaDoor.Hot
open Go Go.RowKit Mem Pl Disk Crc _root_.Go.Proofs.YtgcckfaljfkkhaaDoor.Frame
theorem isP_same {d at_ len : Int} {u v : Pc} (hu : isP 1 d at_ len u = true) (hv : isP 1 d at_ len v = true) : v = u := by
  obtain ⟨_, e1, e2⟩ := isP_true hu
  obtain ⟨_, e3, e4⟩ := isP_true hv
  exact Prod.ext (by omega) (by omega)
theorem isP_its (u : Pc) : isP 1 1 (u.1 : Int) (u.2 : Int) u = true := by
  have := isP_self 1 u
  simpa using this
section
variable {B : Nat} {w w' : World} {s a h r : Nat} {F H G : Nat → Prop} {pm : PM} {m n : Nat} {Hs : List (List UInt8)} {segs segs' : List Nat} {hsed hsed' used : List Pc} {bytes : List (List UInt8)} {ever dims : Nat}
theorem StandB.freeAt (x : StandB B w s a h r F H G pm m n Hs segs hsed used bytes ever dims) (hul : used.length ≤ 1000000000) {k : Nat} {u : Pc} (hu : used[k]? = some u) (d at_ len : Int) (bad : Bool) (hp : isP 1 d at_ len u = true) :
    Calls Tryd.prog 17 #[.pointer (some ⟨h, 0, none⟩), .agg #[.int .i64 d, .int .i64 at_, .int .i64 len, .bool bad]] w fun e w' => e = .returned (.int .i64 0) ∧ ∃ segs' hsed', hsed'.Perm (used.eraseIdx k) ∧ segs'.length = segs.length ∧ StandM B w' s a h r F H G pm m n Hs [] segs' hsed' used bytes ever dims ∧ Mods w.heap.size H w w' := by
  obtain ⟨S, U, y⟩ := x.hot.hot
  refine (free_any y x.hot.ok (by rw [x.perm.length_eq]; exact hul) d at_ len bad).mono ?_
  rintro e w' ⟨q, hf, hr⟩
  cases q with
  | none =>
    have := hf u (x.perm.mem_iff.2 (List.mem_of_getElem? hu))
    rw [hp] at this
    cases this
  | some k' =>
    obtain ⟨⟨v, hv, hpv⟩, _⟩ := hf
    have e3 := isP_same hp hpv
    subst e3
    obtain ⟨rfl, ⟨segs', hl, hok', hat⟩, hm⟩ := hr
    refine ⟨rfl, segs', _, erase_perm x.perm hv hu, hl, ?_, hm⟩
    refine x.mem.hotStep (F' := F) (H' := H) ⟨St.off_ x.hot.st hm x.hot.apart, x.hot.disk, hat, hok', by rw [hl]; exact x.hot.size, fun g hg => ⟨(x.hot.lt g hg).1, Nat.lt_of_lt_of_le (x.hot.lt g hg).2 hm.size⟩, x.hot.apart⟩ (hm.mono (Nat.le_refl _) fun g _ hg => .inr hg) (fun g hg => .inl hg) (fun g hg => .inl hg)
theorem StandB.freeNo (x : StandB B w s a h r F H G pm m n Hs segs hsed used bytes ever dims) (hul : used.length ≤ 1000000000) (d at_ len : Int) (bad : Bool) (hno : ∀ u ∈ used, isP 1 d at_ len u = false) :
    Calls Tryd.prog 17 #[.pointer (some ⟨h, 0, none⟩), .agg #[.int .i64 d, .int .i64 at_, .int .i64 len, .bool bad]] w fun e w' => e = .returned (.int .i64 31) ∧ Below w.heap.size w w' := by
  obtain ⟨S, U, y⟩ := x.hot.hot
  refine (free_any y x.hot.ok (by rw [x.perm.length_eq]; exact hul) d at_ len bad).mono ?_
  rintro e w' ⟨q, hf, hr⟩
  cases q with
  | none => exact hr
  | some k' =>
    obtain ⟨⟨v, hv, hpv⟩, _⟩ := hf
    rw [hno v (x.perm.mem_iff.1 (List.mem_of_getElem? hv))] at hpv
    cases hpv
theorem StandB.readAt (x : StandB B w s a h r F H G pm m n Hs segs hsed used bytes ever dims) (hul : used.length ≤ 1000000000) (hm : m ≤ 1000000000) {k : Nat} {u : Pc} {b : List UInt8} (hu : used[k]? = some u) (hb : bytes[k]? = some b) (d at_ len : Int) (bad : Bool) (hp : isP 1 d at_ len u = true) :
    Calls Tryd.prog 26 #[.pointer (some ⟨h, 0, none⟩), .agg #[.int .i64 d, .int .i64 at_, .int .i64 len, .bool bad]] w fun e w' => ∃ A mm cap, e = .returned (.tuple #[.slice A mm cap, .int .i64 0]) ∧ Own w' w.heap.size 5 A mm cap b ∧ Below w.heap.size w w' := by
  obtain ⟨e0, e1, e2⟩ := isP_true hp
  have h1 : d = 1 := by omega
  have h2 : at_ = (u.1 : Int) := by omega
  have h3 : len = (u.2 : Int) := by omega
  subst h1 h2 h3
  exact x.few hul hu hb hm bad
theorem StandB.readNo (x : StandB B w s a h r F H G pm m n Hs segs hsed used bytes ever dims) (hul : used.length ≤ 1000000000) (hm : m ≤ 1000000000) (d at_ len : Int) (bad : Bool) (hno : ∀ u ∈ used, isP 1 d at_ len u = false) :
    Calls Tryd.prog 26 #[.pointer (some ⟨h, 0, none⟩), .agg #[.int .i64 d, .int .i64 at_, .int .i64 len, .bool bad]] w fun e w' => e = .returned (.tuple #[.slice none 0 0, .int .i64 31]) ∧ Below w.heap.size w w' := by
  obtain ⟨S, U, y⟩ := x.hot.hot
  refine (hread_any x.hot.st hm y x.hot.ok (by rw [x.perm.length_eq]; exact hul) x.hot.disk x.on x.hot.size x.tabs.crc (Nat.lt_of_lt_of_le x.tabs.c1 x.hB) d at_ len bad).mono ?_
  rintro e w' ⟨q, hf, hr⟩
  cases q with
  | none => exact hr
  | some k' =>
    obtain ⟨⟨v, hv, hpv⟩, _⟩ := hf
    rw [hno v (x.perm.mem_iff.1 (List.mem_of_getElem? hv))] at hpv
    cases hpv
/-- The reference gives up the place too. -/
theorem StandM.drop (x : StandM B w s a h r F H G pm m n Hs [] segs hsed used bytes ever dims) (hul : used.length ≤ 1000000000) {k : Nat} (hk : k < used.length) (hp : hsed.Perm (used.eraseIdx k)) (hon : pm.off = false) (hh : Held1 Hs used bytes) (hr : Room segs.length ever used) (h1 : 1 ≤ n) (h4 : n ≤ 4096) :
    Calls Tryd.prog 41 #[.pointer (some ⟨r, 0, none⟩), .int .i64 (k : Int)] w fun e w' => e = .returned (.tuple #[]) ∧ StandB B w' s a h r F H (Grow G w w') pm m n Hs segs hsed (used.eraseIdx k) (bytes.eraseIdx k) ever dims ∧ Mods w.heap.size G w w' := by
  obtain ⟨U, V, vs, y⟩ := x.ref
  refine (rdrop_any y k hk hul).mono ?_
  rintro e w' ⟨rfl, hat, hm⟩
  exact ⟨rfl, (x.refStep hat hm).all hp hon (hh.drop k) (hr.fewer fun u hu => List.mem_of_mem_eraseIdx hu) h1 h4, hm⟩
/-- What is turned of the stand lies above. -/
theorem StandB.low (x : StandB B w s a h r F H G pm m n Hs segs hsed used bytes ever dims) (hm : Mods w.heap.size (fun g => F g ∨ H g ∨ G g ∨ g = s) w w') : Below B w w' :=
  (hm.mono x.hB fun _ _ h => h).below fun k hk hf => by
    rcases hf with h | h | h | h
    · have := (x.hot.st.lt k h).1; omega
    · have := (x.hot.lt k h).1; omega
    · have := (x.lt k h).1; omega
    · have := x.sB; omega
/-- The fuse was set. -/
theorem StandB.fused {z : Int} (x : StandB B w s a h r F H G pm m n Hs segs hsed used bytes ever dims) (hg : Gone B w F a (pm.setFuse z) m w') : StandB B w' s a h r (Grow F w w') H G (pm.setFuse z) (m + 1) n Hs segs hsed used bytes ever dims := by
  obtain ⟨hst, hm⟩ := hg
  obtain ⟨hd, ho⟩ := x.hot.disk.fuse z
  refine (x.mem.hotStep (F' := Grow F w w') (H' := H) ⟨hst, hd, ?_, x.hot.ok, x.hot.size, fun g hg => ⟨(x.hot.lt g hg).1, Nat.lt_of_lt_of_le (x.hot.lt g hg).2 hm.size⟩, fun g hf hH => ?_⟩ (hm.mono (Nat.le_refl _) fun g _ hf => .inl hf) (fun g hf => hf.imp id (fun h => h.1)) (fun g hg => .inl hg)).all x.perm (by rw [ho]; exact x.on) x.held x.room x.n1 x.n4
  · exact x.hot.hot.mods hm fun g hg hH => ⟨hg, fun hf => x.hot.apart g hf hH⟩
  · rcases hf with h | h
    · exact x.hot.apart g h hH
    · have := (x.hot.lt g hH).2; have := h.1; omega
/-- A boot while nothing waits. -/
theorem StandB.rebooted {keep : List Int} (x : StandB B w s a h r F H G pm m n Hs segs hsed used bytes ever dims) (hg : Gone B w F a (pm.boot keep) m w') : StandB B w' s a h r (Grow F w w') H G (pm.boot keep) (m + 1) n Hs segs hsed used bytes ever dims := by
  obtain ⟨vs, hsub, hz⟩ := x.mem.booted hg
  have : vs = [] := List.sublist_nil.1 hsub
  subst this
  exact hz.all x.perm rfl x.held x.room x.n1 x.n4
end
end Go.Proofs.YtgcckfaljfkkhaaDoor.Hot
