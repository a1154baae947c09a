/- A pager of which nothing is known but its own numbers, with the power on and no fuse: its calls. A disk of which bytes turn. -/
import Derived.Test.YtookhagpgkefpaaDoorPagShown
import Derived.Test.YtookhagpgkefpaaDoorPagKeepP
import Derived.Test.YtookhagpgkefpaaDoorPlRot
namespace Go.Proofs.YtookhagpgkefpaaDoor.Pag
open Go Go.RowKit Mem Pl Disk Crc _root_.Go.Proofs.YtookhagpgkefpaaDoor.Frame
theorem rot_low (p : PM) (i k at_ : Int) (x : UInt8) : (p.rot i k at_ x).1.steps = p.steps ∧ (p.rot i k at_ x).1.waits = p.waits := by
  unfold PM.rot
  split
  · exact ⟨rfl, rfl⟩
  · split
    · exact ⟨rfl, rfl⟩
    · split <;> exact ⟨rfl, rfl⟩
theorem rot_ok {p : PM} (h : p.Ok) (i k at_ : Int) (x : UInt8) : (p.rot i k at_ x).1.Ok := by
  unfold PM.rot
  cases hn : p.num i with
  | none => exact h
  | some j =>
    dsimp only
    cases hd : p.devs[j]? with
    | none => exact h
    | some d =>
      dsimp only
      split
      · rename_i hc
        have hj : j < p.devs.length := (List.getElem?_eq_some_iff.1 hd).1
        have back : ∀ (q : Nat) (e : Dev), (p.devs.set j { d with has := d.has.set k.toNat ((d.at_ k.toNat).set at_.toNat (((d.at_ k.toNat).getD at_.toNat 0) ^^^ x)) })[q]? = some e → (q = j ∧ e = { d with has := d.has.set k.toNat ((d.at_ k.toNat).set at_.toNat (((d.at_ k.toNat).getD at_.toNat 0) ^^^ x)) }) ∨ (q ≠ j ∧ p.devs[q]? = some e) := fun q e he => by
          by_cases hq : q = j
          · subst hq
            rw [List.getElem?_set_self hj] at he
            injection he with he
            exact .inl ⟨rfl, he.symm⟩
          · rw [List.getElem?_set_ne (fun e => hq e.symm)] at he
            exact .inr ⟨hq, he⟩
        have hl : ∀ z : Dev, (p.devs.set j z).length = p.devs.length := fun _ => List.length_set
        constructor
        · show 1 ≤ (p.devs.set _ _).length; rw [hl]; exact h.n1
        · show (p.devs.set _ _).length ≤ 12; rw [hl]; exact h.n12
        · show (p.devs.set _ _).length = _; rw [hl]; exact h.shape
        · intro q e he
          rcases back q e he with ⟨rfl, rfl⟩ | ⟨_, he⟩
          · exact h.tape _ d hd
          · exact h.tape q e he
        · intro q e he
          rcases back q e he with ⟨rfl, rfl⟩ | ⟨_, he⟩
          · exact h.most _ d hd
          · exact h.most q e he
        · intro q e he ht
          rcases back q e he with ⟨rfl, rfl⟩ | ⟨_, he⟩
          · show (d.has.set _ _).length = _
            rw [List.length_set]; exact h.disk _ d hd ht
          · exact h.disk q e he ht
        · intro q e he ht
          rcases back q e he with ⟨rfl, rfl⟩ | ⟨_, he⟩
          · show (d.has.set _ _).length + _ ≤ _
            rw [List.length_set]; exact h.room _ d hd ht
          · exact h.room q e he ht
        · intro q e b he hb
          rcases back q e he with ⟨rfl, rfl⟩ | ⟨_, he⟩
          · rcases List.mem_or_eq_of_mem_set hb with hb | hb
            · exact h.sec _ d b hd hb
            · rw [hb, List.length_set]; exact h.at_len hd _
          · exact h.sec q e b he hb
        · intro y hy; show _ < (p.devs.set _ _).length; rw [hl]; exact h.wdev y hy
        · exact h.wlen
        · intro y hy e he
          rcases back _ e he with ⟨hq, rfl⟩ | ⟨_, he⟩
          · exact h.wplace y hy d (hq ▸ hd)
          · exact h.wplace y hy e he
        · intro q e he ht
          rcases back q e he with ⟨rfl, rfl⟩ | ⟨_, he⟩
          · show _ = List.range' (d.has.set _ _).length _
            rw [List.length_set]; exact h.wtape _ d hd ht
          · exact h.wtape q e he ht
        · exact h.now
        · exact h.fuse
      · exact h
section
variable {B : Nat} {w w' : World} {K : Nat → Prop} {a : Nat} {pm : PM} {n dev N : Nat} {H : List (List UInt8)} {ws : Ws} {g : Nat} {m : PgM}
/-- 'Rot'. -/
theorem Pd1.rot (x : Pd1 B w K a pm n dev N H ws) (hB : B ≤ w.heap.size) (k at_ z : Int) :
    Calls Tryd.prog 22 #[.pointer (some ⟨a, 0, none⟩), .int .i64 (dev : Int), .int .i64 k, .int .i64 at_, .int .i64 z] w fun e w' => ∃ v pm' H', e = .returned v ∧ Pd1 B w' (Grow K w w') a pm' n dev N H' ws ∧ pm'.off = pm.off ∧ pm'.fuse = pm.fuse ∧ Mods w.heap.size K w w' := by
  obtain ⟨F, h, hF⟩ := x.inner
  refine (rot_any h.at_ h.ok (dev : Int) k at_ z).mono ?_
  rintro e w' ⟨rfl, hp, hm⟩
  obtain ⟨Hs, hd, ho, hf, _⟩ := x.disk.rot (x.disk.len h.ok) k at_ (Pl.byteOf z)
  obtain ⟨hl1, hl2⟩ := rot_low pm (dev : Int) k at_ (Pl.byteOf z)
  have hst : St B w' (Grow F w w') a (pm.rot (dev : Int) k at_ (Pl.byteOf z)).1 n := ⟨hp, rot_ok h.ok _ _ _ _, grow_lt (fun q hq => h.lt q hq) hB hm.size, by rw [hl1]; exact h.steps, by rw [hl2]; exact h.waits⟩
  obtain ⟨h7, h8⟩ := pd_frame x hF hB grow_new hm hst hd
  exact ⟨_, _, Hs, rfl, h7, ho, hf, h8⟩
theorem Pg1.putRaw (x : Pg1 B w K a pm n dev N H ws g m) (hB : B ≤ w.heap.size) (hn : n ≤ 800000000) (hon : pm.off = false) (hf : pm.fuse = none) (ht : TabB B w) (A : Option Addr) (L cap : Nat) (bs : List UInt8) (hb : BAt w A bs) (hl : bs.length = L) (hLm : L ≤ 9223372036854775807) :
    Calls Tryd.prog 14 #[.pointer (some ⟨g, 0, none⟩), .slice A L cap] w fun e w' => ∃ p q pm' ws' m', e = .returned (.tuple #[.int .i64 p, .int .i64 q]) ∧ pm'.off = false ∧ pm'.fuse = none ∧ Pg1 B w' (Grow K w w') a pm' (n + 8) dev N H ws' g m' ∧ m'.gen = m.gen ∧ Mods w.heap.size K w w' := by
  obtain ⟨F, h, hF⟩ := x.inner
  refine (put_any h hB (by omega) hon ht.tab (Nat.lt_of_lt_of_le ht.c hB) A L cap bs hb hl hLm).mono ?_
  rintro e w' (⟨h5, rfl, hb'⟩ | ⟨h5, hno, rfl, hb'⟩ | ⟨page, h5, hp, hfr, hfst, F', pm', h1, h2, ⟨rfl, h3, h4, h6⟩ | ⟨rfl, h3, h4, i, hi8, h6⟩⟩)
  · have hx := (x.below hb').more (Nat.le_add_right n 8)
    exact ⟨_, _, pm, ws, m, rfl, hon, hf, ⟨by obtain ⟨F, h, hF⟩ := hx.inner; exact ⟨F, h, fun k hk => .inl (hF k hk)⟩, .inl hx.own, grow_lt x.lt hB hb'.size⟩, rfl, Mods.of_below hb'⟩
  · have hx := (x.below hb').more (Nat.le_add_right n 8)
    exact ⟨_, _, pm, ws, m, rfl, hon, hf, ⟨by obtain ⟨F, h, hF⟩ := hx.inner; exact ⟨F, h, fun k hk => .inl (hF k hk)⟩, .inl hx.own, grow_lt x.lt hB hb'.size⟩, rfl, Mods.of_below hb'⟩
  · obtain ⟨h7, h8⟩ := pg_frame x hF hB h1 h2 h6
    exact ⟨_, _, pm', _, _, rfl, h3, h4 hf, h7, rfl, h8⟩
  · exact absurd hf h4
theorem Pg1.commitRaw (x : Pg1 B w K a pm n dev N H ws g m) (hB : B ≤ w.heap.size) (hn : n ≤ 800000000) (hon : pm.off = false) (hf : pm.fuse = none) (ht : TabB B w) (hgen : m.gen < 9223372036854775808) :
    Calls Tryd.prog 18 #[.pointer (some ⟨g, 0, none⟩), .int .i64 (-1)] w fun e w' => e = .returned (.int .i64 0) ∧ ∃ pm' H', Mods w.heap.size K w w' ∧ pm'.off = false ∧ pm'.fuse = none ∧ Pg1 B w' (Grow K w w') a pm' (n + 3) dev N H' [] g (m.commit (-1)) := by
  obtain ⟨F, h, hF⟩ := x.inner
  refine (commit_any h hB hn hon ht.tab ht.c hgen (-1)).mono ?_
  rintro e w' (⟨hr, rfl, rfl⟩ | ⟨hr, F', pm', h1, h2, ⟨rfl, h3, h4, h6⟩ | ⟨rfl, h3, h4, h6⟩⟩)
  · unfold PgM.rootMay at hr; simp at hr
  · obtain ⟨h7, h8⟩ := pg_frame x hF hB h1 h2 h6
    exact ⟨rfl, pm', _, h8, h3, h4 hf, h7⟩
  · exact absurd hf h4
/-- 'Open' of whatever disk. -/
theorem Pd1.openedRaw (x : Pd1 B w K a pm n dev N H ws) (hB : B ≤ w.heap.size) (hn : n ≤ 800000000) (hon : pm.off = false) (ht : TabB B w) (h10 : 10 ≤ N) :
    Calls Tryd.prog 12 #[.pointer (some ⟨a, 0, none⟩), .int .i64 (dev : Int)] w fun e w' => Below w.heap.size w w' ∧ (e = .returned (.tuple #[.pointer none, .int .i64 4]) ∨
      ∃ g' m', e = .returned (.tuple #[.pointer (some ⟨g', 0, none⟩), .int .i64 0]) ∧ Pg1 B w' (Grow K w w') a pm n dev N H ws g' m' ∧ m'.pages = min ((N - 2) / 8) 384 ∧ m'.gen < 9223372036854775808 ∧ -1 ≤ m'.root ∧ m'.root < (m'.pages : Int)) := by
  obtain ⟨F, h, hF⟩ := x.inner
  refine (open_on h x.disk (by omega) hon h10 ht.tab (Nat.lt_of_lt_of_le ht.c hB)).mono ?_
  rintro e w' ⟨hb, ⟨_, rfl⟩ | ⟨g', m', h3, rfl, hg, hp⟩⟩
  · exact ⟨hb, .inl rfl⟩
  · unfold openM at h3
    split at h3
    · rename_i hok
      simp only [Bool.and_eq_true] at hok
      injection h3 with h3
      have hpg := (opsM_pages (virt H ws) (min ((N - 2) / 8) 384) 2).1
      have hgn := opsM_gen (virt H ws) (min ((N - 2) / 8) 384) 2
      have hrt := opsM_root (virt H ws) (min ((N - 2) / 8) 384) (fun i _ => virt_len x.disk h.ok i) 2 (by omega)
      have hro := hok.2
      unfold rootOk at hro
      generalize opsM (virt H ws) (min ((N - 2) / 8) 384) 2 = o at *
      have e1 : m'.pages = min ((N - 2) / 8) 384 := by rw [← h3]; exact hpg
      have e2 : m'.gen = o.gen := by rw [← h3]
      have e3 : m'.root = o.root := by rw [← h3]
      simp at hro
      exact ⟨hb, .inr ⟨g', m', rfl, pg_made x hB hb hg hp (by omega) (by omega), e1, by omega, by omega, by omega⟩⟩
    · cases h3
/-- 'Read' of whatever pager. -/
theorem Pg1.readRaw (x : Pg1 B w K a pm n dev N H ws g m) (hB : B ≤ w.heap.size) (hn : n ≤ 800000000) (hon : pm.off = false) (ht : TabB B w) (page : Int) :
    Calls Tryd.prog 25 #[.pointer (some ⟨g, 0, none⟩), .int .i64 page] w fun e w' => Below w.heap.size w w' ∧ ∃ A k c z, e = .returned (.tuple #[.slice A k c, .int .i64 z]) ∧ ((z = 0 ∧ k ≤ 500) ∨ (z = 90 ∧ k = 0) ∨ (z = 4 ∧ k = 0)) := by
  obtain ⟨F, h, hF⟩ := x.inner
  refine (pread_any h.st h.disk (by omega) hon h.pg h.n384 h.fit ht.tab (Nat.lt_of_lt_of_le ht.c hB) page).mono ?_
  rintro e w' ⟨hb, ⟨hu, rfl⟩ | ⟨hu, hr, rfl⟩ | ⟨b, A, k, c, hu, hr, rfl, ho⟩⟩
  · exact ⟨hb, none, 0, 0, 90, rfl, .inr (.inl ⟨rfl, rfl⟩)⟩
  · exact ⟨hb, none, 0, 0, 4, rfl, .inr (.inr ⟨rfl, rfl⟩)⟩
  · refine ⟨hb, A, k, c, 0, rfl, .inl ⟨rfl, ?_⟩⟩
    rw [← ho.len]
    unfold readPg readPage at hr
    split at hr
    · rename_i hc
      injection hr with hr
      rw [← hr, List.length_take]
      omega
    · cases hr
end
/-- Three numbers in a row. -/
abbrev Tri := Int × Int × Int
def TriAt (w : World) (q : Addr) (t : Tri) : Prop := w.cell? q = some (.int .i64 t.1) ∧ w.cell? ⟨q.block, q.off + 1, none⟩ = some (.int .i64 t.2.1) ∧ w.cell? ⟨q.block, q.off + 2, none⟩ = some (.int .i64 t.2.2)
def TrisAt (w : World) (A : Option Addr) (ts : List Tri) : Prop := ∀ i t, ts[i]? = some t → ∃ ad, A = some ad ∧ TriAt w (ad.add (i * 3)) t
theorem TrisAt.below {w w' : World} {A : Option Addr} {ts : List Tri} (h : TrisAt w A ts) (hb : Below w.heap.size w w') : TrisAt w' A ts := fun i t ht => by
  obtain ⟨ad, hA, h0, h1, h2⟩ := h i t ht
  exact ⟨ad, hA, (hb.cell (cell_lt h0)).trans h0, (hb.cell (cell_lt h1)).trans h1, (hb.cell (cell_lt h2)).trans h2⟩
end Go.Proofs.YtookhagpgkefpaaDoor.Pag
