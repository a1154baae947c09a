/- Layer 15 (coldvol): two plants side by side: two volumes on the one, one on the other; rows of bytes among the arguments. -/
import Derived.Test.YtloffgoenaomkaaDoorColW
namespace Go.Proofs.YtloffgoenaomkaaDoor.Col
open Go Go.RowKit Mem Pl Disk Crc _root_.Go.Proofs.YtloffgoenaomkaaDoor.Frame Hash Sha
/-- A row of rows of bytes. -/
def RowsAt (W : World) (A : Option Addr) (l : List (List UInt8)) : Prop :=
  ∀ i b, l[i]? = some b → ∃ ad B c, A = some ad ∧ W.cell? (ad.add i) = some (.slice B b.length c) ∧ BAt W B b ∧ b.length ≤ c ∧ (B = none → c = 0)
theorem RowsAt.below {W w : World} {A : Option Addr} {l : List (List UInt8)} (h : RowsAt W A l) (hb : Below W.heap.size W w) : RowsAt w A l := fun i b hi => by
  obtain ⟨ad, B, c, e, hc, hB, h1, h2⟩ := h i b hi
  exact ⟨ad, B, c, e, (hb.cell (cell_lt hc)).trans hc, hB.below hb, h1, h2⟩
section
variable {B : Nat} {w w' : World} {F F' G G' : Nat → Prop} {pa qa v u z n n' m j : Nat} {pm pm' qm qm' : PM}
theorem Up.off_ (h : Up B w G qa qm m) (hf : Frm B w F pa pm n' j F' pm' w') (hd : ∀ g, F g → ¬ G g) (hF : ∀ g, F g → B ≤ g) : Up B w' G qa qm m :=
  ⟨St.off_ h.st hf.mods fun g hg hF => hd g hF hg, h.on, h.fz, h.tb.below (hf.low hF h.bs), Nat.le_trans h.bs hf.mods.size⟩
theorem Vb.off_ {c dev : Nat} (h : Vb w G z c dev) (hf : Frm B w F pa pm n' j F' pm' w') (hz : ¬ F z) : Vb w' G z c dev ∧ ¬ F' z := ⟨⟨h.1.mods hf.mods h.1.lt hz, h.2⟩, fun hg => (hf.grow z hg).elim hz (Nat.not_le.2 h.1.lt)⟩
/-- Two volumes on a plant, and a third on another, which has what the first has. -/
structure ApS (B : Nat) (w : World) (F G : Nat → Prop) (pa qa v u z n : Nat) (pm qm : PM) (oa ob : List (Nat × List UInt8 × List UInt8)) : Prop where
  p : Up B w F pa pm n
  q : Up B w G qa qm n
  ta : TT pm 0 90 oa none
  tb : TT pm 1 90 ob none
  tz : TT qm 0 90 oa none
  vv : Vb w F v pa 0
  vu : Vb w F u pa 1
  vz : Vb w G z qa 0
  d : ∀ g, F g → ¬ G g
  gv : ¬ G v
  gu : ¬ G u
  fz : ¬ F z
theorem ApS.below {oa ob : List (Nat × List UInt8 × List UInt8)} (h : ApS B w F G pa qa v u z n pm qm oa ob) (hb : Below w.heap.size w w') : ApS B w' F G pa qa v u z n pm qm oa ob :=
  ⟨h.p.below hb, h.q.below hb, h.ta, h.tb, h.tz, h.vv.below hb, h.vu.below hb, h.vz.below hb, h.d, h.gv, h.gu, h.fz⟩
theorem ApS.flo {oa ob : List (Nat × List UInt8 × List UInt8)} (h : ApS B w F G pa qa v u z n pm qm oa ob) : ∀ g, F g → B ≤ g := fun g hg => (h.p.st.lt g hg).1
theorem ApS.glo {oa ob : List (Nat × List UInt8 × List UInt8)} (h : ApS B w F G pa qa v u z n pm qm oa ob) : ∀ g, G g → B ≤ g := fun g hg => (h.q.st.lt g hg).1
/-- An append to the first volume's neighbour. -/
theorem ApS.onU {oa ob : List (Nat × List UInt8 × List UInt8)} (h : ApS B w F G pa qa v u z n pm qm oa ob) (hn : n ≤ 900000000) (id : List UInt8) (hid : id.length ≤ 140737488355328)
    (A : Option Addr) (m cap : Nat) (b : List UInt8) (hb : BAt w A b) (hm : b.length = m) (hcap : m ≤ cap) (hm2 : m ≤ 9223372036854775807) (hnil : A = none → cap = 0) :
    Calls Tryd.prog 11 #[.pointer (some ⟨u, 0, none⟩), .string (Rec.S8 id), .slice A m cap] w fun e w' => ∃ F' pm', ApS B w' F' G pa qa v u z (n + 12) pm' qm oa (osA 90 ob none id b) ∧ Below B w w' ∧
      e = .returned (.tuple #[xA 1 90 ob none id b, .int .i64 (mayT 90 ob none id b : Int)]) := by
  refine (h.p.append h.tb h.vu hn id hid A m cap b hb hm hcap hm2 hnil).mono ?_
  rintro e w' ⟨F', pm', hf, hu, hv, ht, rfl⟩
  refine ⟨F', pm', ⟨hu, (h.q.off_ hf h.d h.flo).more (by omega), h.ta.els hf (by omega), ht, h.tz, h.vv.frm hf, hv, (h.vz.off_ hf h.fz).1, fun g hg hG => ?_, h.gv, h.gu, (h.vz.off_ hf h.fz).2⟩, hf.low h.flo h.p.bs, rfl⟩
  exact (hf.grow g hg).elim (fun h1 => h.d g h1 hG) fun h1 => by have := (h.q.st.lt g hG).2; omega
/-- The same append to both volumes that are alike. -/
theorem ApS.onV {oa ob : List (Nat × List UInt8 × List UInt8)} (h : ApS B w F G pa qa v u z n pm qm oa ob) (hn : n ≤ 900000000) (id : List UInt8) (hid : id.length ≤ 140737488355328)
    (A : Option Addr) (m cap : Nat) (b : List UInt8) (hb : BAt w A b) (hm : b.length = m) (hcap : m ≤ cap) (hm2 : m ≤ 9223372036854775807) (hnil : A = none → cap = 0) :
    Calls Tryd.prog 11 #[.pointer (some ⟨v, 0, none⟩), .string (Rec.S8 id), .slice A m cap] w fun e w' => Below B w w' ∧ e = .returned (.tuple #[xA 0 90 oa none id b, .int .i64 (mayT 90 oa none id b : Int)]) ∧ ∃ F' pm', (∀ g, F' g → g < w'.heap.size) ∧ w.heap.size ≤ w'.heap.size ∧
      (∀ g t cs, Kp w F g t cs → ¬ G g → Kp w' F' g t cs) ∧ (∀ w1, Below w'.heap.size w' w1 → ∀ (A : Option Addr) (m cap : Nat), BAt w1 A b → b.length = m → m ≤ cap → (A = none → cap = 0) →
        Calls Tryd.prog 11 #[.pointer (some ⟨z, 0, none⟩), .string (Rec.S8 id), .slice A m cap] w1 fun e w2 => ∃ G' qm', ApS B w2 F' G' pa qa v u z (n + 12) pm' qm' (osA 90 oa none id b) ob ∧ Below B w w2 ∧
          (∀ g t cs, Kp w1 G g t cs → ¬ F' g → Kp w2 F' g t cs ∧ ¬ G' g) ∧ e = .returned (.tuple #[xA 0 90 oa none id b, .int .i64 (mayT 90 oa none id b : Int)])) := by
  refine (h.p.append h.ta h.vv hn id hid A m cap b hb hm hcap hm2 hnil).mono ?_
  rintro e w' ⟨F', pm', hf, hu, hv, ht, rfl⟩
  refine ⟨hf.low h.flo h.p.bs, rfl, F', pm', fun g hg => (hu.st.lt g hg).2, hf.mods.size, fun g t cs hk _ => hk.frm hf, fun w1 hb1 A m cap hbat hm hcap hnil => ?_⟩
  have hq1 := (h.q.off_ hf h.d h.flo).below hb1
  have hz1 := (h.vz.off_ hf h.fz).1.below hb1
  have hd1 : ∀ g, F' g → ¬ G g := fun g hg hG => (hf.grow g hg).elim (fun h1 => h.d g h1 hG) fun h1 => by have := (h.q.st.lt g hG).2; omega
  refine (hq1.append h.tz hz1 hn id hid A m cap b hbat hm hcap (by omega) hnil).mono ?_
  rintro e w2 ⟨G', qm', hg, hq, hzv, htz, rfl⟩
  have hdd : ∀ g, G g → ¬ F' g := fun g h1 h2 => hd1 g h2 h1
  have hv1 := hv.below hb1
  have hu1 := (h.vu.frm hf).below hb1
  have hv2 := hv1.off_ hg h.gv
  have hu2 := hu1.off_ hg h.gu
  have hglo : ∀ g, G g → B ≤ g := h.glo
  refine ⟨G', qm', ⟨(hu.below hb1).off_ hg hdd hglo, hq, ht, h.tb.els hf (by omega), htz, hv2.1, hu2.1, hzv, fun g h1 h2 => ?_, hv2.2, hu2.2, (h.vz.off_ hf h.fz).2⟩, ?_, fun g t cs hk hF => ⟨⟨(hk.frm hg).1, hF⟩, (hk.frm hg).2⟩, rfl⟩
  · exact (hg.grow g h2).elim (hd1 g h1) fun h3 => by have := (hu.st.lt g h1).2; have := hb1.size; omega
  · exact (hf.low h.flo h.p.bs).trans ((hb1.mono hu.bs).trans (hg.low hglo hq1.bs))
end
end Go.Proofs.YtloffgoenaomkaaDoor.Col
