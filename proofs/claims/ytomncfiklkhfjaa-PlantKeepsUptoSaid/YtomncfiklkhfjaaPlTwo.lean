/- Two plants beside one another within a law; the rounds of 'PlantOff'. -/
import Derived.Test.YtomncfiklkhfjaaPlShown
import Derived.Test.YtomncfiklkhfjaaPlCopy
import Derived.Test.YtomncfiklkhfjaaPlOffP
namespace Go.Proofs.Ytomncfiklkhfjaa.Pl
open Go Go.RowKit Mem
section
variable {B : Nat} {w w' : World} {F G : Nat → Prop} {a c : Nat} {p q : PM} {n m : Nat}
/-- The clone, and the plant as it was: no block is both's. -/
theorem St.copy (h : St B w F a p n) (hB : B ≤ w.heap.size) (hn : n ≤ 1000000000) :
    Calls Try.prog 37 #[.pointer (some ⟨a, 0, none⟩)] w fun e w' => ∃ b, e = .returned (.pointer (some ⟨b, 0, none⟩)) ∧ St B w' F a p n ∧ St B w' (New w w') b p n ∧ (∀ g, F g → ¬ New w w' g) ∧ Below w.heap.size w w' :=
  (copy_any h.at_ h.ok (h.low hn)).mono fun e w' ⟨b, he, hp, hb⟩ => ⟨b, he, h.below hb, ⟨hp, h.ok, fun g hg => ⟨Nat.le_trans hB hg.1, hg.2⟩, h.steps, h.waits⟩, fun g hf hg => by
    have h1 := (h.lt g hf).2
    have h2 := hg.1
    omega, hb⟩
/-- What is done to the one leaves the other. -/
theorem St.beside (hq : St B w G c q m) (hm : Mods w.heap.size F w w') (hd : ∀ g, F g → ¬ G g) : St B w' G c q m ∧ ∀ g, Grow F w w' g → ¬ G g :=
  ⟨⟨hq.at_.mods hm fun g hg hG => ⟨hg, fun hF => hd g hF hG⟩, hq.ok, fun g hg => ⟨(hq.lt g hg).1, Nat.lt_of_lt_of_le (hq.lt g hg).2 hm.size⟩, hq.steps, hq.waits⟩, fun g hg hG => by
    rcases hg with hg | hg
    · exact hd g hg hG
    · have h1 := (hq.lt g hG).2
      have h2 := hg.1
      omega⟩
theorem disj_symm (hd : ∀ g, F g → ¬ G g) : ∀ g, G g → ¬ F g := fun g hg hf => hd g hf hg
end
namespace Off
theorem At.start (f : Nat) : At f 0 (OM [] false (some f) 0) := ⟨[], .inl ⟨rfl, Nat.zero_le _⟩⟩
theorem At.steps {f done : Nat} {p : PM} (h : At f done p) : p.steps = done ∧ done ≤ f := by
  obtain ⟨ws, ⟨rfl, h⟩ | ⟨rfl, h⟩⟩ := h
  · exact ⟨rfl, h⟩
  · exact ⟨rfl, by omega⟩
theorem At.write {f done k : Nat} {p : PM} (h : At f done p) (hk : k < 8) {b : List UInt8} (hb : b.length = 64) :
    (done < f ∧ (p.write 0 (k : Int) b).2 = 0 ∧ At f (done + 1) (p.write 0 (k : Int) b).1) ∨ (done = f ∧ (p.write 0 (k : Int) b).2 = 2 ∧ At f done (p.write 0 (k : Int) b).1) := by
  obtain ⟨ws, ⟨rfl, h⟩ | ⟨rfl, h⟩⟩ := h
  · rw [OM_write_on ws f done k b h hk hb]
    by_cases hlt : done < f
    · rw [if_pos hlt]
      exact .inl ⟨hlt, rfl, _, .inl ⟨rfl, hlt⟩⟩
    · rw [if_neg hlt]
      exact .inr ⟨by omega, rfl, ws, .inr ⟨rfl, by omega⟩⟩
  · rw [OM_write_off]
    exact .inr ⟨h, rfl, ws, .inr ⟨rfl, h⟩⟩
theorem At.append {f done : Nat} {p : PM} (h : At f done p) {b : List UInt8} (hb : b.length = 64) :
    ((p.append 1 b).2.2 = 3 ∧ At f done (p.append 1 b).1) ∨ (done < f ∧ (p.append 1 b).2.2 = 0 ∧ At f (done + 1) (p.append 1 b).1) ∨ (done = f ∧ (p.append 1 b).2.2 = 2 ∧ At f done (p.append 1 b).1) := by
  obtain ⟨ws, ⟨rfl, h⟩ | ⟨rfl, h⟩⟩ := h
  · rcases OM_append_on ws f done b h hb with ⟨h1, h2⟩ | ⟨hlt, h1, ws', h2⟩ | ⟨he, h1, h2⟩
    · rw [h2]
      exact .inl ⟨h1, ws, .inl ⟨rfl, h⟩⟩
    · rw [h2]
      exact .inr (.inl ⟨hlt, h1, ws', .inl ⟨rfl, hlt⟩⟩)
    · rw [h2]
      exact .inr (.inr ⟨he, h1, ws, .inr ⟨rfl, he⟩⟩)
  · rw [OM_append_off]
    exact .inr (.inr ⟨h, rfl, ws, .inr ⟨rfl, h⟩⟩)
/-- The fuse is set to nothing, and a flush finds it so: the power is off. -/
theorem At.last {f done : Nat} {p : PM} (h : At f done p) : ∃ ws, (p.setFuse 0).flush 0 = (OM ws true none done, 2) := by
  obtain ⟨ws, ⟨rfl, h⟩ | ⟨rfl, h⟩⟩ := h
  · refine ⟨ws, ?_⟩
    rw [show (0 : Int) = ((0 : Nat) : Int) from rfl, OM_fuse]
    exact OM_flush_on ws done
  · refine ⟨ws, ?_⟩
    rw [OM_fuse_off, OM_flush_off]
end Off
end Go.Proofs.Ytomncfiklkhfjaa.Pl
