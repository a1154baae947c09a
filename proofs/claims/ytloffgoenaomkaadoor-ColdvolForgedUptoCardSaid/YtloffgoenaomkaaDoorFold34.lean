/- Layer 15 (coldvol): two plants side by side: two volumes on the one, one on the other; rows of bytes among the arguments. -/
import Derived.Test.YtloffgoenaomkaaDoorColW
namespace Go.Proofs.YtloffgoenaomkaaDoor.Col
open Go Go.RowKit Mem Pl Disk Crc _root_.Go.Proofs.YtloffgoenaomkaaDoor.Frame Hash Sha
/-- A row of rows of bytes. -/
def RowsAt (W : World) (A : Option Addr) (l : List (List UInt8)) : Prop :=
  ∀ i b, l[i]? = some b → ∃ ad B c, A = some ad ∧ W.cell? (ad.add i) = some (.slice B b.length c) ∧ BAt W B b ∧ b.length ≤ c ∧ (B = none → c = 0)
theorem RowsAt.below {W w : World} {A : Option Addr} {l : List (List UInt8)} (h : RowsAt W A l) (hb : Below W.heap.size W w) : RowsAt w A l := fun i b hi => by
  obtain ⟨ad, B, c, e, hc, hB, h1, h2⟩ := h i b hi
  exact ⟨ad, B, c, e, (hb.cell (cell_lt hc)).trans hc, hB.below hb, h1, h2⟩
section
variable {B : Nat} {w w' : World} {F F' G G' : Nat → Prop} {pa qa v u z n n' m j : Nat} {pm pm' qm qm' : PM}
theorem Up.off_ (h : Up B w G qa qm m) (hf : Frm B w F pa pm n' j F' pm' w') (hd : ∀ g, F g → ¬ G g) (hF : ∀ g, F g → B ≤ g) : Up B w' G qa qm m :=
  ⟨St.off_ h.st hf.mods fun g hg hF => hd g hF hg, h.on, h.fz, h.tb.below (hf.low hF h.bs), Nat.le_trans h.bs hf.mods.size⟩
theorem Vb.off_ {c dev : Nat} (h : Vb w G z c dev) (hf : Frm B w F pa pm n' j F' pm' w') (hz : ¬ F z) : Vb w' G z c dev ∧ ¬ F' z := ⟨⟨h.1.mods hf.mods h.1.lt hz, h.2⟩, fun hg => (hf.grow z hg).elim hz (Nat.not_le.2 h.1.lt)⟩
/-- Two volumes on a plant, and a third on another, which has what the first has. -/
structure ApS (B : Nat) (w : World) (F G : Nat → Prop) (pa qa v u z n : Nat) (pm qm : PM) (oa ob : List (Nat × List UInt8 × List UInt8)) : Prop where
  p : Up B w F pa pm n
  q : Up B w G qa qm n
  ta : TT pm 0 90 oa none
  tb : TT pm 1 90 ob none
  tz : TT qm 0 90 oa none
  vv : Vb w F v pa 0
  vu : Vb w F u pa 1
  vz : Vb w G z qa 0
  d : ∀ g, F g → ¬ G g
  gv : ¬ G v
  gu : ¬ G u
  fz : ¬ F z
theorem ApS.below {oa ob : List (Nat × List UInt8 × List UInt8)} (h : ApS B w F G pa qa v u z n pm qm oa ob) (hb : Below w.heap.size w w') : ApS B w' F G pa qa v u z n pm qm oa ob :=
  ⟨h.p.below hb, h.q.below hb, h.ta, h.tb, h.tz, h.vv.below hb, h.vu.below hb, h.vz.below hb, h.d, h.gv, h.gu, h.fz⟩
theorem ApS.flo {oa ob : List (Nat × List UInt8 × List UInt8)} (h : ApS B w F G pa qa v u z n pm qm oa ob) : ∀ g, F g → B ≤ g := fun g hg => (h.p.st.lt g hg).1
theorem ApS.glo {oa ob : List (Nat × List UInt8 × List UInt8)} (h : ApS B w F G pa qa v u z n pm qm oa ob) : ∀ g, G g → B ≤ g := fun g hg => (h.q.st.lt g hg).1
/-- An append to the first volume's neighbour. -/
theorem ApS.onU {oa ob : List (Nat × List UInt8 × List UInt8)} (h : ApS B w F G pa qa v u z n pm qm oa ob) (hn : n ≤ 900000000) (id : List UInt8) (hid : id.length ≤ 140737488355328)
    (A : Option Addr) (m cap : Nat) (b : List UInt8) (hb : BAt w A b) (hm : b.length = m) (hcap : m ≤ cap) (hm2 : m ≤ 9223372036854775807) (hnil : A = none → cap = 0) :
    Calls Tryd.prog 11 #[.pointer (some ⟨u, 0, none⟩), .string (Rec.S8 id), .slice A m cap] w fun e w' => ∃ F' pm', ApS B w' F' G pa qa v u z (n + 12) pm' qm oa (osA 90 ob none id b) ∧ Below B w w' ∧
      e = .returned (.tuple #[xA 1 90 ob none id b, .int .i64 (mayT 90 ob none id b : Int)]) := by
  refine (h.p.append h.tb h.vu hn id hid A m cap b hb hm hcap hm2 hnil).mono ?_
  rintro e w' ⟨F', pm', hf, hu, hv, ht, rfl⟩
  refine ⟨F', pm', ⟨hu, (h.q.off_ hf h.d h.flo).more (by omega), h.ta.els hf (by omega), ht, h.tz, h.vv.frm hf, hv, (h.vz.off_ hf h.fz).1, fun g hg hG => ?_, h.gv, h.gu, (h.vz.off_ hf h.fz).2⟩, hf.low h.flo h.p.bs, rfl⟩
  exact (hf.grow g hg).elim (fun h1 => h.d g h1 hG) fun h1 => by have := (h.q.st.lt g hG).2; omega
/-- The same append to both volumes that are alike. -/
theorem ApS.onV {oa ob : List (Nat × List UInt8 × List UInt8)} (h : ApS B w F G pa qa v u z n pm qm oa ob) (hn : n ≤ 900000000) (id : List UInt8) (hid : id.length ≤ 140737488355328)
    (A : Option Addr) (m cap : Nat) (b : List UInt8) (hb : BAt w A b) (hm : b.length = m) (hcap : m ≤ cap) (hm2 : m ≤ 9223372036854775807) (hnil : A = none → cap = 0) :
    Calls Tryd.prog 11 #[.pointer (some ⟨v, 0, none⟩), .string (Rec.S8 id), .slice A m cap] w fun e w' => Below B w w' ∧ e = .returned (.tuple #[xA 0 90 oa none id b, .int .i64 (mayT 90 oa none id b : Int)]) ∧ ∃ F' pm', (∀ g, F' g → g < w'.heap.size) ∧ w.heap.size ≤ w'.heap.size ∧
      (∀ g t cs, Kp w F g t cs → ¬ G g → Kp w' F' g t cs) ∧ (∀ w1, Below w'.heap.size w' w1 → ∀ (A : Option Addr) (m cap : Nat), BAt w1 A b → b.length = m → m ≤ cap → (A = none → cap = 0) →
        Calls Tryd.prog 11 #[.pointer (some ⟨z, 0, none⟩), .string (Rec.S8 id), .slice A m cap] w1 fun e w2 => ∃ G' qm', ApS B w2 F' G' pa qa v u z (n + 12) pm' qm' (osA 90 oa none id b) ob ∧ Below B w w2 ∧
          (∀ g t cs, Kp w1 G g t cs → ¬ F' g → Kp w2 F' g t cs ∧ ¬ G' g) ∧ e = .returned (.tuple #[xA 0 90 oa none id b, .int .i64 (mayT 90 oa none id b : Int)])) := by
  refine (h.p.append h.ta h.vv hn id hid A m cap b hb hm hcap hm2 hnil).mono ?_
  rintro e w' ⟨F', pm', hf, hu, hv, ht, rfl⟩
  refine ⟨hf.low h.flo h.p.bs, rfl, F', pm', fun g hg => (hu.st.lt g hg).2, hf.mods.size, fun g t cs hk _ => hk.frm hf, fun w1 hb1 A m cap hbat hm hcap hnil => ?_⟩
  have hq1 := (h.q.off_ hf h.d h.flo).below hb1
  have hz1 := (h.vz.off_ hf h.fz).1.below hb1
  have hd1 : ∀ g, F' g → ¬ G g := fun g hg hG => (hf.grow g hg).elim (fun h1 => h.d g h1 hG) fun h1 => by have := (h.q.st.lt g hG).2; omega
  refine (hq1.append h.tz hz1 hn id hid A m cap b hbat hm hcap (by omega) hnil).mono ?_
  rintro e w2 ⟨G', qm', hg, hq, hzv, htz, rfl⟩
  have hdd : ∀ g, G g → ¬ F' g := fun g h1 h2 => hd1 g h2 h1
  have hv1 := hv.below hb1
  have hu1 := (h.vu.frm hf).below hb1
  have hv2 := hv1.off_ hg h.gv
  have hu2 := hu1.off_ hg h.gu
  have hglo : ∀ g, G g → B ≤ g := h.glo
  refine ⟨G', qm', ⟨(hu.below hb1).off_ hg hdd hglo, hq, ht, h.tb.els hf (by omega), htz, hv2.1, hu2.1, hzv, fun g h1 h2 => ?_, hv2.2, hu2.2, (h.vz.off_ hf h.fz).2⟩, ?_, fun g t cs hk hF => ⟨⟨(hk.frm hg).1, hF⟩, (hk.frm hg).2⟩, rfl⟩
  · exact (hg.grow g h2).elim (hd1 g h1) fun h3 => by have := (hu.st.lt g h1).2; have := hb1.size; omega
  · exact (hf.low h.flo h.p.bs).trans ((hb1.mono hu.bs).trans (hg.low hglo hq1.bs))
end
end Go.Proofs.YtloffgoenaomkaaDoor.Col
/- Layer 15 (coldvol): what was told: a row of objects in memory. -/
namespace Go.Proofs.YtloffgoenaomkaaDoor.Col
open Go Go.RowKit Mem Pl Disk Crc _root_.Go.Proofs.YtloffgoenaomkaaDoor.Frame Hash Sha
/-- An object that was told: its first block, its id, its bytes; whether it was flushed. -/
structure Ob where
  s : Nat
  id : List UInt8
  b : List UInt8
  fl : Bool
def objRow (dev : Nat) (o : Ob) (A : Option Addr) (c : Nat) : List Value := [.string (Rec.S8 o.id), .slice A o.b.length c, .int .i64 (dev : Int), .int .i64 (o.s : Int), .int .i64 ((2 + dataN o.b.length : Nat) : Int), .bool false, .bool o.fl]
theorem objRow_one (dev : Nat) (o : Ob) (A : Option Addr) (c : Nat) : ∀ u ∈ objRow dev o A c, u.oneCell' = true := fun u hu => by
  simp [objRow] at hu
  rcases hu with rfl | rfl | rfl | rfl | rfl | rfl | rfl <;> rfl
theorem objTy : ElTy Tryd.prog 50 57 7 80 (.agg #[.string ⟨#[]⟩, .slice none 0 0, .int .i64 0, .int .i64 0, .int .i64 0, .bool false, .bool false]) := ⟨Tryd.underlying50, by kernel_rfl, by kernel_rfl, by decide⟩
/-- Bytes that none of such blocks hold. -/
def Hd (w : World) (G : Nat → Prop) (A : Option Addr) (bs : List UInt8) : Prop := bs = [] ∨ Held w G A bs
section
variable {w w' : World} {G G' J : Nat → Prop} {A : Option Addr} {bs : List UInt8}
theorem Hd.bat (h : Hd w G A bs) : BAt w A bs := by
  rcases h with rfl | h
  · exact BAt.nil_ _ _
  · exact h.1
theorem Hd.mods (h : Hd w G A bs) (hm : Mods w.heap.size J w w') (hJ : ∀ g, J g → G g) (hG : ∀ g, G' g → G g ∨ w.heap.size ≤ g) : Hd w' G' A bs := by
  rcases h with h | h
  · exact .inl h
  · exact .inr (h.keep (fun ad hA => hm.keep _ (h.2 ad hA).2 fun hj => (h.2 ad hA).1 (hJ _ hj)) hm.size fun ad _ hn hlt hg => (hG _ hg).elim hn (Nat.not_le.2 hlt))
theorem Hd.below (h : Hd w G A bs) (hb : Below w.heap.size w w') : Hd w' G A bs := h.mods (J := fun _ => False) (Mods.of_below hb) (fun _ h => h.elim) fun _ h => .inl h
theorem Hd.of_own {base m k : Nat} (h : Own w base 5 A m k bs) (hF : ∀ g, G g → g < base) : Hd w G A bs := .inr (Held.of_own h hF)
theorem Hd.arg {W : World} (h : BAt W A bs) (hb : Below W.heap.size W w) (hG : ∀ g, G g → W.heap.size ≤ g) : Hd w G A bs := by
  by_cases h0 : bs = []
  · exact .inl h0
  · refine .inr ⟨h.below hb, fun ad hA => ?_⟩
    obtain ⟨ad', hA', hc⟩ := h (List.length_pos_iff.2 h0)
    rw [hA] at hA'
    injection hA' with hA'
    subst hA'
    have h1 := cell_lt (hc 0 (List.length_pos_iff.2 h0))
    rw [addr_block] at h1
    exact ⟨fun hg => by have := hG _ hg; omega, Nat.lt_of_lt_of_le h1 hb.size⟩
end
/-- Objects that were told, in blocks of their own. -/
structure ToldB (B : Nat) (w : World) (F K : Nat → Prop) (dev : Nat) (v : Value) (ts : List Ob) : Prop where
  sep : ∀ g, K g → B ≤ g ∧ ¬ F g ∧ g < w.heap.size
  rows : ∃ rs : List (List Value), Vec w K 57 7 v ts.length rs.flatten ∧ rs.length = ts.length ∧ ∀ (j : Nat) (o : Ob), ts[j]? = some o → ∃ A c, rs[j]? = some (objRow dev o A c) ∧ Hd w (fun g => F g ∨ K g) A o.b
section
variable {B : Nat} {w w1 w' : World} {F F' K : Nat → Prop} {a c n n' v dev j : Nat} {pm pm' : PM} {ts : List Ob} {tv : Value}
theorem ToldB.nil_ (B : Nat) (w : World) (F : Nat → Prop) (dev : Nat) (A : Option Addr) : ToldB B w F (fun _ => False) dev (.slice A 0 0) [] :=
  ⟨fun _ h => h.elim, [], Vec.nil_ _ _ _ _ _, rfl, fun j o h => by simp at h⟩
theorem ToldB.below (h : ToldB B w F K dev tv ts) (hb : Below w.heap.size w w') : ToldB B w' F K dev tv ts := by
  obtain ⟨hs, rs, h1, h2, h3⟩ := h
  refine ⟨fun g hg => ⟨(hs g hg).1, (hs g hg).2.1, Nat.lt_of_lt_of_le (hs g hg).2.2 hb.size⟩, rs, h1.below hb, h2, fun j o ho => ?_⟩
  obtain ⟨A, c, h4, h5⟩ := h3 j o ho
  exact ⟨A, c, h4, h5.below hb⟩
theorem ToldB.frm {i : Nat} (h : ToldB B w F K dev tv ts) (hf : Frm B w F c pm n i F' pm' w') : ToldB B w' F' K dev tv ts := by
  obtain ⟨hs, rs, h1, h2, h3⟩ := h
  refine ⟨fun g hg => ⟨(hs g hg).1, fun hF => (hf.grow g hF).elim (hs g hg).2.1 (Nat.not_le.2 (hs g hg).2.2), Nat.lt_of_lt_of_le (hs g hg).2.2 hf.mods.size⟩, rs, h1.mods hf.mods fun g hl hg => ⟨hl, (hs g hg).2.1⟩, h2, fun j o ho => ?_⟩
  obtain ⟨A, c, h4, h5⟩ := h3 j o ho
  exact ⟨A, c, h4, h5.mods hf.mods (fun g hg => .inl hg) fun g hg => by
    rcases hg with hg | hg
    · exact (hf.grow _ hg).imp .inl id
    · exact .inl (.inr hg)⟩
theorem ToldB.len (h : ToldB B w F K dev tv ts) : ∃ A cap, tv = .slice A ts.length cap := by
  obtain ⟨_, rs, h1, _⟩ := h
  exact h1.shape
/-- One more. -/
theorem ToldB.snoc {w4 : World} {rs : List (List Value)} {v4 : Value} {o : Ob} {A : Option Addr} {c : Nat} {row : Option Nat} (hs : ∀ g, K g → B ≤ g ∧ ¬ F g ∧ g < w.heap.size) (hl : rs.length = ts.length)
    (hr : ∀ (j : Nat) (o : Ob), ts[j]? = some o → ∃ A c, rs[j]? = some (objRow dev o A c) ∧ Hd w (fun g => F g ∨ K g) A o.b) (hnew : Hd w (fun g => F g ∨ K g) A o.b) (hF : ∀ g, F g → g < w.heap.size) (hB : B ≤ w.heap.size)
    (hv : Vec w4 (Grow K w w4) 57 7 v4 (ts.length + 1) (rs.flatten ++ objRow dev o A c)) (hg : w.grownBy w4 row) (hrow : row = none ∨ ∃ g cs, row = some g ∧ K g ∧ w.heap[g]? = some (.cells cs 57 (0, 0))) :
    ToldB B w4 F (Grow K w w4) dev v4 (ts ++ [o]) ∧ Mods w.heap.size K w w4 := by
  have hm : Mods w.heap.size K w w4 := (Mods.refl w.heap.size K w).grown hg (Nat.le_refl _) fun g hg => by
    rcases hrow with h | ⟨g', cs, h, hk, _⟩
    · rw [h] at hg; cases hg
    · rw [h] at hg
      injection hg with hg
      exact .inl (hg ▸ hk)
  have hkeep : ∀ (A : Option Addr) (bs : List UInt8), Hd w (fun g => F g ∨ K g) A bs → Hd w4 (fun g => F g ∨ Grow K w w4 g) A bs := fun A bs h5 =>
    h5.mods hm (fun g hg => .inr hg) fun g hg => by
      rcases hg with hg | hg | hg
      · exact .inl (.inl hg)
      · exact .inl (.inr hg)
      · exact .inr hg.1
  refine ⟨⟨fun g hg => ?_, rs ++ [objRow dev o A c], ?_, by simp [hl], fun j o' ho => ?_⟩, hm⟩
  · rcases hg with hg | hg
    · exact ⟨(hs g hg).1, (hs g hg).2.1, Nat.lt_of_lt_of_le (hs g hg).2.2 hm.size⟩
    · exact ⟨Nat.le_trans hB hg.1, fun h => by have := hF g h; omega, hg.2⟩
  · simpa using hv
  · rcases Nat.lt_or_ge j ts.length with hj | hj
    · rw [List.getElem?_append_left hj] at ho
      obtain ⟨A', c', h4, h5⟩ := hr j o' ho
      exact ⟨A', c', by rw [List.getElem?_append_left (by omega)]; exact h4, hkeep _ _ h5⟩
    · rw [List.getElem?_append_right hj] at ho
      obtain ⟨h2, h3⟩ := List.getElem?_eq_some_iff.1 ho
      have hk' : j = ts.length := by simp at h2; omega
      subst hk'
      simp at h3
      subst h3
      exact ⟨A, c, by rw [← hl]; simp, hkeep _ _ hnew⟩
/-- A row's cells. -/
theorem ToldB.cells {A : Option Addr} {cap : Nat} (h : ToldB B w F K dev (.slice A ts.length cap) ts) {k : Nat} {o : Ob} (ho : ts[k]? = some o) :
    ∃ g A' c', A = some ⟨g, 0, none⟩ ∧ w.rangeAt g (k * 7) (objRow dev o A' c') ∧ Hd w (fun g => F g ∨ K g) A' o.b := by
  obtain ⟨hs, rs, h1, h2, h3⟩ := h
  obtain ⟨A', c', h4, h5⟩ := h3 k o ho
  have hlen : ∀ r ∈ rs, r.length = 7 := fun r hr => by
    obtain ⟨i, hi⟩ := List.getElem?_of_mem hr
    have hi' : i < ts.length := by
      have := (List.getElem?_eq_some_iff.1 hi).1
      omega
    obtain ⟨A2, c2, h6, _⟩ := h3 i ts[i] (List.getElem?_eq_getElem hi')
    rw [hi] at h6
    rw [Option.some.inj h6]
    rfl
  have hkl := (List.getElem?_eq_some_iff.1 ho).1
  obtain ⟨g, cap', cur, he, _⟩ := h1.form (by omega)
  injection he with he
  subst he
  refine ⟨g, A', c', rfl, h1.range (k * 7) _ fun j u hu => ?_, h5⟩
  have hj : j < 7 := by
    have := (List.getElem?_eq_some_iff.1 hu).1
    exact this
  rw [flat_get rs hlen k j _ h4 hj]
  exact hu
/-- The plant, and a volume, beside what turns. -/
theorem Up.mods {J : Nat → Prop} (h : Up B w F a pm n) (hm : Mods w.heap.size J w w') (hJ : ∀ g, J g → B ≤ g ∧ ¬ F g) : Up B w' F a pm n :=
  ⟨St.off_ h.st hm fun g hg hJg => (hJ g hJg).2 hg, h.on, h.fz, h.tb.below ((hm.mono h.bs fun _ _ h => h).below fun k hk h => by have := (hJ k h).1; omega), Nat.le_trans h.bs hm.size⟩
theorem Vb.mods {J : Nat → Prop} (h : Vb w F v a dev) (hm : Mods w.heap.size J w w') (hv : ¬ J v) : Vb w' F v a dev := ⟨h.1.mods hm h.1.lt hv, h.2⟩
theorem mods_low {J : Nat → Prop} {W : World} (hm : Mods w.heap.size J w w') (hJ : ∀ g, J g → B ≤ g) (hB : B ≤ w.heap.size) (hW : Below B W w) : Below B W w' := hW.trans ((hm.mono hB fun _ _ h => h).below fun k hk h => by have := hJ k h; omega)
end
end Go.Proofs.YtloffgoenaomkaaDoor.Col
/- Layer 15 (coldvol): the law's 'sameList' and 'kind'. -/
namespace Go.Proofs.YtloffgoenaomkaaDoor.Col
open Go Go.RowKit Mem Pl Disk Crc _root_.Go.Proofs.YtloffgoenaomkaaDoor.Frame Hash Sha
def kindM (z : Int) : Nat := ((if z < 0 then -(z + 1) else z).toNat) % 10
theorem kindM_lt (z : Int) : kindM z < 10 := Nat.mod_lt _ (by omega)
theorem kind_any (w : World) (z : Int) (hz : -9223372036854775808 ≤ z ∧ z < 9223372036854775808) : Calls Tryd.prog 16 #[.int .i64 z] w fun e w' => e = .returned (.int .i64 (kindM z : Int)) ∧ w = w' := by
  by_cases hneg : z < 0
  · obtain ⟨m, hm⟩ : ∃ m : Nat, -(z + 1) = (m : Int) := ⟨(-(z + 1)).toNat, by omega⟩
    have h1 : IntKind.i64.wrap (z + 1) = z + 1 := IntWalk.i64_in _ (by omega)
    have h2 : IntKind.i64.wrap (-(z + 1)) = (m : Int) := by rw [hm]; exact IntWalk.i64_in _ (by omega)
    have h3 : (m : Int).tmod 10 = (kindM z : Int) := by
      unfold kindM
      rw [if_pos hneg, hm, Int.toNat_natCast, IntWalk.rem_in _ _ (by omega)]
      omega
    have h4 : IntKind.i64.wrap (kindM z : Int) = (kindM z : Int) := IntWalk.i64_in _ (by have := kindM_lt z; omega)
    generalize kindM z = k at *
    clear hm
    go_enter Tryd.func16, Tryd.ntmps16
    go_wp2_with fail
    go_ret
    exact ⟨rfl, rfl⟩
  · obtain ⟨m, rfl⟩ : ∃ m : Nat, z = (m : Int) := ⟨z.toNat, by omega⟩
    have h3 : (m : Int).tmod 10 = (kindM (m : Int) : Int) := by
      unfold kindM
      rw [if_neg hneg, Int.toNat_natCast, IntWalk.rem_in _ _ (by omega)]
      omega
    have h4 : IntKind.i64.wrap (kindM (m : Int) : Int) = (kindM (m : Int) : Int) := IntWalk.i64_in _ (by have := kindM_lt (m : Int); omega)
    generalize kindM (m : Int) = k at *
    go_enter Tryd.func16, Tryd.ntmps16
    go_wp2_with fail
    go_ret
    exact ⟨rfl, rfl⟩
def obsOf (ts : List Ob) : List (Nat × List UInt8 × List UInt8) := ts.map fun o => (o.s, o.id, o.b)
theorem obsOf_len (ts : List Ob) : (obsOf ts).length = ts.length := by simp [obsOf]
def SameR (w : World) (n : Nat) (iv : Value) (wr : World) : Prop := ∃ i : Nat, i ≤ n ∧ iv = .int .i64 (i : Int) ∧ Below w.heap.size w wr
set_option maxRecDepth 100000 in
set_option maxHeartbeats 4000000 in
theorem sameList_any {B : Nat} {w : World} {F K J : Nat → Prop} {dev : Nat} {ts : List Ob} (A1 A2 : Option Addr) (n c1 c2 : Nat) (hv : Vec w J 35 4 (.slice A1 n c1) n (placesV dev (obsOf ts))) (ht : ToldB B w F K dev (.slice A2 n c2) ts) (hn : ts.length = n) :
    Calls Tryd.prog 22 #[.slice A1 n c1, .slice A2 n c2] w fun e w' => e = .returned (.bool true) ∧ Below w.heap.size w w' := by
  have HV := Lib.hid hv
  have HT := Lib.hid ht
  have HN := Lib.hid hn
  clear hv ht hn
  go_enter Tryd.func22, Tryd.ntmps22
  go_wp2_with fail
  go_loopw [5] (fun iv wr => SameR w n iv wr) (fun iv _ => n - (intOf iv).toNat)
  case atStart => exact ⟨0, Nat.zero_le _, rfl, Below.refl _ _⟩
  case round =>
    obtain ⟨i, hi, rfl, hb⟩ := hrel
    have HB := Lib.hid hb
    by_cases hlt : i < n
    · have hltI : (i : Int) < (n : Int) := by omega
      obtain ⟨o, ho⟩ : ∃ o, ts[i]? = some o := ⟨_, List.getElem?_eq_getElem (by rw [HN.out]; exact hlt)⟩
      have htt := HT.out.below hb
      have hvv := HV.out.below hb
      obtain ⟨g2, A', c', rfl, hr2, _⟩ := ToldB.cells (by rw [HN.out]; exact htt) ho
      obtain ⟨g1, hA1⟩ : ∃ g1, A1 = some ⟨g1, 0, none⟩ := by
        obtain ⟨g1, cap', cur, he, _⟩ := hvv.form (by omega)
        injection he with he
        exact ⟨g1, he⟩
      subst hA1
      have hr1 : wr.rangeAt g1 (i * 4) (pcV dev o.s ((2 + dataN o.b.length : Nat) : Int)) := hvv.range (i * 4) _ fun j u hu => by
        have hj : j < 4 := (List.getElem?_eq_some_iff.1 hu).1
        unfold placesV
        rw [flat_get _ (fun r hr => by obtain ⟨x, _, rfl⟩ := List.mem_map.1 hr; rfl) i j (pcV dev o.s ((2 + dataN o.b.length : Nat) : Int)) (by unfold obsOf; rw [List.getElem?_map, List.getElem?_map, ho]; rfl) hj]
        exact hu
      have hr3 : wr.rangeAt g2 (i * 7 + 2) (pcV dev o.s ((2 + dataN o.b.length : Nat) : Int)) := fun j u hu => by
        have hj : j < 4 := (List.getElem?_eq_some_iff.1 hu).1
        rw [Nat.add_assoc]
        refine hr2 (2 + j) u ?_
        unfold objRow
        match j, hj with
        | 0, _ => exact hu
        | 1, _ => exact hu
        | 2, _ => exact hu
        | 3, _ => exact hu
      generalize 2 + dataN o.b.length = L at *
      generalize o.s = s at *
      have HR := Lib.hid (⟨hr1, hr3⟩ : _ ∧ _)
      have hi1 : IntKind.i64.wrap ((i : Int) + 1) = (i : Int) + 1 := IntWalk.i64_in _ (by have := HV.out.le; unfold maxLen at this; omega)
      clear hr1 hr2 hr3 hvv htt ho hb
      go_wp2_with fail
      refine Ord.region_ord [] [0, 1, 2, 3, 4, 5, 6, 7, 8, 9] (by kernel_rfl) (by kernel_rfl) (by kernel_rfl) (by kernel_rfl) (Ord.ord_all [_, _, _, _, _, _, _, _, _, _] rfl (by kernel_rfl) ?_)
      go_wp2_with
        (refine wpList_load_mid rfl 35 (.tmp 19) rfl g1 (i * 4) rfl [.int .i64 (dev : Int), .int .i64 (s : Int), .int .i64 (L : Int), .bool false] _ (show wr.drew.rangeAt g1 (i * 4) _ from HR.out.1) Tryd.underlying35 rfl (by kernel_rfl) ?_
         go_wp2_with
           (refine wpList_load_mid rfl 35 (.tmp 24) rfl g2 (i * 7 + 2) rfl [.int .i64 (dev : Int), .int .i64 (s : Int), .int .i64 (L : Int), .bool false] _ (show wr.drew.rangeAt g2 (i * 7 + 2) _ from HR.out.2) Tryd.underlying35 rfl (by kernel_rfl) ?_))
      refine Ord.nx_end ?_
      go_wp2_with fail
      go_roundw
      case rel => exact ⟨i + 1, hlt, by simp, HB.out.trans (below_drewN (Below.refl _ _) 1 |>.mono HB.out.size)⟩
      case measure => simp [intOf]; omega
    · have hltI : ¬ (i : Int) < (n : Int) := by omega
      go_wp2_with fail
      go_ret
      exact ⟨rfl, HB.out⟩
end Go.Proofs.YtloffgoenaomkaaDoor.Col
/- Layer 15 (coldvol): a volume with what was told of it beside it; reading a block of the plant. -/
namespace Go.Proofs.YtloffgoenaomkaaDoor.Col
open Go Go.RowKit Mem Pl Disk Crc _root_.Go.Proofs.YtloffgoenaomkaaDoor.Frame Hash Sha
section
variable {B : Nat} {w w1 w' : World} {F F' K K' : Nat → Prop} {a c n n' v dev N j : Nat} {pm pm' : PM} {ts : List Ob} {tv : Value} {os : List (Nat × List UInt8 × List UInt8)} {sd : Option (List UInt8)}
/-- What the plant answers of a block of a tape. -/
theorem Up.pread (hu : Up B w F a pm n) (ht : TT pm dev N os sd) (hn : n ≤ 1000000000) (k : Int) :
    Calls Tryd.prog 26 #[.pointer (some ⟨a, 0, none⟩), .int .i64 (dev : Int), .int .i64 k] w fun e w' => ∃ A m cap b err, e = .returned (.tuple #[.slice A m cap, .int .i64 err]) ∧ b.length = m ∧ m ≤ 64 ∧ Held w' F A b ∧ Below w.heap.size w w' := by
  obtain ⟨H, ws, htp, _⟩ := ht
  refine (hu.st.read hn (dev : Int) k).mono ?_
  rintro e w' ⟨A, m, cap, rfl, hm, hh, hb⟩
  refine ⟨A, m, cap, _, _, rfl, hm.symm, ?_, hh, hb⟩
  rw [hm]
  by_cases hk : 0 ≤ k ∧ k < ((H.length + ws.length : Nat) : Int)
  · obtain ⟨i, rfl⟩ : ∃ i : Nat, k = (i : Int) := ⟨k.toNat, by omega⟩
    have hi : i < (H ++ ws).length := by rw [List.length_append]; omega
    have hg := List.getElem?_eq_getElem hi
    rw [htp.read hu.on hg]
    have h64 : ((H ++ ws)[i]).length = 64 := by
      have hc := List.getElem_mem hi
      rcases List.mem_append.1 hc with hc | hc
      · exact hu.st.ok.sec dev _ _ htp.dev hc
      · exact TapeP.mem_ws htp hu.st.ok _ hc
    show ((H ++ ws)[i]).length ≤ 64
    omega
  · rw [htp.read_no hu.on hk]
    exact Nat.zero_le _
theorem Up.plen (hu : Up B w F a pm n) (ht : TT pm dev N os sd) (hn : n ≤ 1000000000) :
    Calls Tryd.prog 27 #[.pointer (some ⟨a, 0, none⟩), .int .i64 (dev : Int)] w fun e w' => e = .returned (.tuple #[.int .i64 (lenT os sd : Int), .int .i64 0]) ∧ Below w.heap.size w w' := by
  obtain ⟨H, ws, htp, hp⟩ := ht
  have h1 := hu.st.len hn (dev : Int)
  rw [htp.len, ← List.length_append, hp.lenT] at h1
  exact h1
/-- A volume, what was told of it. -/
structure FgS (B : Nat) (w : World) (F K : Nat → Prop) (a v dev n N : Nat) (pm : PM) (tv : Value) (ts : List Ob) : Prop where
  up : Up B w F a pm n
  vb : Vb w F v a dev
  kv : ¬ K v
  tt : TT pm dev N (obsOf ts) none
  told : ToldB B w F K dev tv ts
theorem FgS.below (h : FgS B w F K a v dev n N pm tv ts) (hb : Below w.heap.size w w') : FgS B w' F K a v dev n N pm tv ts := ⟨h.up.below hb, h.vb.below hb, h.kv, h.tt, h.told.below hb⟩
theorem FgS.more (h : FgS B w F K a v dev n N pm tv ts) (hn : n ≤ n') : FgS B w F K a v dev n' N pm tv ts := ⟨h.up.more hn, h.vb, h.kv, h.tt, h.told⟩
theorem FgS.flo (h : FgS B w F K a v dev n N pm tv ts) : ∀ g, F g → B ≤ g := fun g hg => (h.up.st.lt g hg).1
theorem FgS.fk (h : FgS B w F K a v dev n N pm tv ts) : ∀ g, (F g ∨ K g) → g < w.heap.size := fun g hg => hg.elim (fun h1 => (h.up.st.lt g h1).2) fun h1 => (h.told.sep g h1).2.2
/-- An append, not told yet. -/
theorem FgS.append (h : FgS B w F K a v dev n N pm tv ts) (hn : n ≤ 900000000) (id : List UInt8) (hid : id.length ≤ 140737488355328) (A : Option Addr) (m cap : Nat) (b : List UInt8) (hb : Hd w (fun g => F g ∨ K g) A b) (hm : b.length = m) (hcap : m ≤ cap) (hm2 : m ≤ 9223372036854775807) (hnil : A = none → cap = 0) :
    Calls Tryd.prog 11 #[.pointer (some ⟨v, 0, none⟩), .string (Rec.S8 id), .slice A m cap] w fun e w' => ∃ F' pm', Below B w w' ∧ Up B w' F' a pm' (n + 12) ∧ Vb w' F' v a dev ∧ TT pm' dev N (osA N (obsOf ts) none id b) none ∧ ToldB B w' F' K dev tv ts ∧ Hd w' (fun g => F' g ∨ K g) A b ∧
      e = .returned (.tuple #[xA dev N (obsOf ts) none id b, .int .i64 (mayT N (obsOf ts) none id b : Int)]) := by
  refine (h.up.append h.tt h.vb hn id hid A m cap b hb.bat hm hcap hm2 hnil).mono ?_
  rintro e w' ⟨F', pm', hf, hu, hv, ht, rfl⟩
  refine ⟨F', pm', hf.low h.flo h.up.bs, hu, hv, ht, h.told.frm hf, ?_, rfl⟩
  exact hb.mods hf.mods (fun g hg => .inl hg) fun g hg => by
    rcases hg with hg | hg
    · exact (hf.grow _ hg).imp .inl fun h => h
    · exact .inl (.inr hg)
/-- .. and told. -/
theorem FgS.told_ {w4 : World} {rs : List (List Value)} {v4 : Value} {o : Ob} {A : Option Addr} {c : Nat} {row : Option Nat} (hu : Up B w F a pm n) (hv : Vb w F v a dev) (hkv : ¬ K v) (ht : TT pm dev N (obsOf (ts ++ [o])) none) (hs : ∀ g, K g → B ≤ g ∧ ¬ F g ∧ g < w.heap.size) (hl : rs.length = ts.length)
    (hr : ∀ (j : Nat) (o : Ob), ts[j]? = some o → ∃ A c, rs[j]? = some (objRow dev o A c) ∧ Hd w (fun g => F g ∨ K g) A o.b) (hnew : Hd w (fun g => F g ∨ K g) A o.b)
    (hv4 : Vec w4 (Grow K w w4) 57 7 v4 (ts.length + 1) (rs.flatten ++ objRow dev o A c)) (hg : w.grownBy w4 row) (hrow : row = none ∨ ∃ g cs, row = some g ∧ K g ∧ w.heap[g]? = some (.cells cs 57 (0, 0))) :
    FgS B w4 F (Grow K w w4) a v dev n N pm v4 (ts ++ [o]) ∧ Below B w w4 := by
  obtain ⟨h1, hm⟩ := ToldB.snoc hs hl hr hnew (fun g hg => (hu.st.lt g hg).2) hu.bs hv4 hg hrow
  refine ⟨⟨hu.mods hm fun g hg => ⟨(hs g hg).1, (hs g hg).2.1⟩, hv.mods hm hkv, fun hg => hg.elim hkv fun h => by have := hv.1.lt; omega, ht, h1⟩, ?_⟩
  exact (hm.mono hu.bs fun _ _ h => h).below fun k hk h => by have := (hs k h).1; omega
theorem obsOf_snoc (ts : List Ob) (o : Ob) : obsOf (ts ++ [o]) = obsOf ts ++ [(o.s, o.id, o.b)] := by simp [obsOf]
end
end Go.Proofs.YtloffgoenaomkaaDoor.Col
