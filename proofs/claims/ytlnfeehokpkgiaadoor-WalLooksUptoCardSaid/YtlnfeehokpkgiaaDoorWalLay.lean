/- The journal's 'lay'. -/
import Derived.Test.YtlnfeehokpkgiaaDoorWalHead
namespace Go.Proofs.YtlnfeehokpkgiaaDoor.Wal
open Go Go.RowKit Mem Pl Disk Crc _root_.Go.Proofs.YtlnfeehokpkgiaaDoor.Frame
/-- The other disks are as they were. -/
def Others (dev : Nat) (pm pm' : PM) : Prop := ∀ (j N : Nat) (H : List (List UInt8)) (ws : Ws), j ≠ dev → Disk pm j N H ws → Disk pm' j N H ws
theorem Others.refl (dev : Nat) (pm : PM) : Others dev pm pm := fun _ _ _ _ _ h => h
theorem Others.trans {dev : Nat} {p q r : PM} (h : Others dev p q) (k : Others dev q r) : Others dev p r := fun j N H ws hj hd => k j N H ws hj (h j N H ws hj hd)
theorem others_write {pm : PM} {dev N k : Nat} {H : List (List UInt8)} {ws : Ws} {b : List UInt8} (h : Disk pm dev N H ws) (hon : pm.off = false) (hk : k < N) (hb : b.length = 64) : Others dev pm (pm.write dev k b).1 := fun j N2 H2 ws2 hj hd => by
  by_cases hf : pm.fuse = some 0
  · rw [write_off h hon hf hk hb]
    exact hd.same rfl rfl
  · rw [write_on h hon hf hk hb]
    exact hd.wroteElse (fun e => hj e.symm) rfl rfl
theorem others_flush {pm : PM} {dev N : Nat} {H : List (List UInt8)} {ws : Ws} (h : Disk pm dev N H ws) (hon : pm.off = false) : Others dev pm (pm.flush dev).1 := fun j N2 H2 ws2 hj hd => by
  by_cases hf : pm.fuse = some 0
  · rw [flush_off h hon hf]
    exact hd.same rfl rfl
  · rw [flush_on h hon hf]
    exact hd.flushedElse (fun e => hj e.symm) rfl rfl
/-- A fuse that is burnt: no step is taken with the power on. -/
def Zero (dev : Nat) (pm pm' : PM) : Prop := pm.off = true ∨ pm.fuse = some 0 → (pm'.off = true ∨ pm'.fuse = some 0) ∧ ∀ (N : Nat) (H : List (List UInt8)) (ws : Ws), Disk pm dev N H ws → Disk pm' dev N H ws
theorem Zero.refl (dev : Nat) (pm : PM) : Zero dev pm pm := fun h => ⟨h, fun _ _ _ h => h⟩
theorem Zero.trans {dev : Nat} {p q r : PM} (h : Zero dev p q) (k : Zero dev q r) : Zero dev p r :=
  fun e => ⟨(k (h e).1).1, fun N H ws hd => (k (h e).1).2 N H ws ((h e).2 N H ws hd)⟩
theorem Zero.dark {dev : Nat} {p q : PM} (h : p.off = false) (k : p.fuse = some 0 → q.off = true ∧ q.devs = p.devs ∧ q.waits = p.waits) : Zero dev p q := fun e => by
  rcases e with e | e
  · rw [h] at e
    cases e
  · obtain ⟨h1, h2, h3⟩ := k e
    exact ⟨.inl h1, fun N H ws hd => hd.same h2 h3⟩
theorem grow_new {w w' : World} {F : Nat → Prop} : ∀ g, Grow F w w' g → F g ∨ w.heap.size ≤ g := fun g hg => by
  rcases hg with hg | hg
  · exact .inl hg
  · exact .inr hg.1
theorem st_more {B : Nat} {w : World} {G : Nat → Prop} {c m k : Nat} {q : PM} (hq : St B w G c q m) (h : m ≤ k) : St B w G c q k := ⟨hq.at_, hq.ok, hq.lt, Nat.le_trans hq.steps h, Nat.le_trans hq.waits h⟩
/-- The frame of a call on a plant. -/
structure Frm (B : Nat) (w : World) (F : Nat → Prop) (a : Nat) (pm : PM) (n dev : Nat) (F' : Nat → Prop) (pm' : PM) (w' : World) : Prop where
  grow : ∀ g, F' g → F g ∨ w.heap.size ≤ g
  mods : Mods w.heap.size F w w'
  st : St B w' F' a pm' n
  els : Others dev pm pm'
  fuse : pm.fuse = none → pm'.fuse = none
  zero : Zero dev pm pm'
theorem Frm.of_below {B : Nat} {w w1 w' : World} {F F' : Nat → Prop} {a n dev : Nat} {pm pm' : PM} (h : Frm B w1 F a pm n dev F' pm' w') (hb : Below w.heap.size w w1) : Frm B w F a pm n dev F' pm' w' :=
  ⟨fun g hg => (h.grow g hg).imp id fun h => Nat.le_trans hb.size h, (Mods.of_below hb).trans (h.mods.mono hb.size fun _ _ h => h), h.st, h.els, h.fuse, h.zero⟩
theorem Frm.trans {B : Nat} {w w1 w' : World} {F F1 F' : Nat → Prop} {a n1 n dev : Nat} {pm pm1 pm' : PM} (h : Frm B w F a pm n1 dev F1 pm1 w1) (k : Frm B w1 F1 a pm1 n dev F' pm' w') : Frm B w F a pm n dev F' pm' w' :=
  ⟨fun g hg => (k.grow g hg).elim (h.grow g) fun h1 => .inr (Nat.le_trans h.mods.size h1), h.mods.trans (k.mods.mono h.mods.size fun g hlt hg => (h.grow g hg).resolve_right (by omega)), k.st, h.els.trans k.els, fun e => k.fuse (h.fuse e), h.zero.trans k.zero⟩
theorem Frm.more {B : Nat} {w w' : World} {F F' : Nat → Prop} {a n n' dev : Nat} {pm pm' : PM} (h : Frm B w F a pm n dev F' pm' w') (hn : n ≤ n') : Frm B w F a pm n' dev F' pm' w' := ⟨h.grow, h.mods, st_more h.st hn, h.els, h.fuse, h.zero⟩
theorem Frm.below {B : Nat} {w w1 w' : World} {F F' : Nat → Prop} {a n dev : Nat} {pm pm' : PM} (h : Frm B w F a pm n dev F' pm' w1) (hb : Below w1.heap.size w1 w') : Frm B w F a pm n dev F' pm' w' :=
  ⟨h.grow, h.mods.then_below hb h.mods.size, h.st.below hb, h.els, h.fuse, h.zero⟩
theorem Frm.refl {B : Nat} {w : World} {F : Nat → Prop} {a n dev : Nat} {pm : PM} (h : St B w F a pm n) : Frm B w F a pm n dev F pm w := ⟨fun _ hg => .inl hg, Mods.refl _ _ _, h, Others.refl _ _, fun e => e, Zero.refl _ _⟩
/-- What 'Write' of a sector leaves. -/
theorem St.wrote {B : Nat} {w : World} {F : Nat → Prop} {a : Nat} {pm : PM} {n dev N : Nat} {H : List (List UInt8)} {ws : Ws} (hst : St B w F a pm n) (hd : Disk pm dev N H ws) (hB : B ≤ w.heap.size) (hn : n ≤ 1000000000) (hon : pm.off = false) (k : Nat) (hk : k < N)
    (A : Option Addr) (cap : Nat) (b : List UInt8) (hb : BAt w A b) (hl : b.length = 64) :
    Calls Tryd.prog 13 #[.pointer (some ⟨a, 0, none⟩), .int .i64 (dev : Int), .int .i64 (k : Int), .slice A 64 cap] w fun e w' => ∃ F' pm', Frm B w F a pm (n + 1) dev F' pm' w' ∧
      ((e = .returned (.int .i64 0) ∧ Disk pm' dev N H (ws ++ [(k, b)]) ∧ pm'.off = false) ∨ (e = .returned (.int .i64 2) ∧ Disk pm' dev N H ws ∧ pm.fuse ≠ none ∧ pm'.off = true)) := by
  refine (hst.write hB hn (dev : Int) (k : Int) A 64 cap b hb hl).mono ?_
  rintro e w' ⟨he, hs, hm⟩
  have hf : Others dev pm (pm.write dev k b).1 := others_write hd hon hk hl
  have hz : Zero dev pm (pm.write dev k b).1 := Zero.dark hon fun e => by rw [write_off hd hon e hk hl]; exact ⟨rfl, rfl, rfl⟩
  rcases hd.write_cases hon hk hl with ⟨h1, h2, h3, h4⟩ | ⟨h1, h2, h3, h4⟩
  · exact ⟨_, _, ⟨grow_new, hm, hs, hf, h4, hz⟩, .inl ⟨by rw [he, h1], h2, h3⟩⟩
  · exact ⟨_, _, ⟨grow_new, hm, hs, hf, fun e => (by rw [e] at h1; cases h1), hz⟩, .inr ⟨by rw [he, h2], h3, by rw [h1]; simp, h4⟩⟩
theorem St.flushed {B : Nat} {w : World} {F : Nat → Prop} {a : Nat} {pm : PM} {n dev N : Nat} {H : List (List UInt8)} {ws : Ws} (hst : St B w F a pm n) (hd : Disk pm dev N H ws) (hB : B ≤ w.heap.size) (hn : n ≤ 1000000000) (hon : pm.off = false) :
    Calls Tryd.prog 35 #[.pointer (some ⟨a, 0, none⟩), .int .i64 (dev : Int)] w fun e w' => ∃ F' pm', Frm B w F a pm (n + 1) dev F' pm' w' ∧
      ((e = .returned (.int .i64 0) ∧ Disk pm' dev N (setAll ws H) [] ∧ pm'.off = false) ∨ (e = .returned (.int .i64 2) ∧ Disk pm' dev N H ws ∧ pm.fuse ≠ none ∧ pm'.off = true)) := by
  refine (hst.flush hB hn (dev : Int)).mono ?_
  rintro e w' ⟨he, hs, hm⟩
  have hf : Others dev pm (pm.flush dev).1 := others_flush hd hon
  have hz : Zero dev pm (pm.flush dev).1 := Zero.dark hon fun e => by rw [flush_off hd hon e]; exact ⟨rfl, rfl, rfl⟩
  rcases hd.flush_cases hon with ⟨h1, h2, h3, h4⟩ | ⟨h1, h2, h3, h4⟩
  · exact ⟨_, _, ⟨grow_new, hm, hs, hf, h4, hz⟩, .inl ⟨by rw [he, h1], h2, h3⟩⟩
  · exact ⟨_, _, ⟨grow_new, hm, hs, hf, fun e => (by rw [e] at h1; cases h1), hz⟩, .inr ⟨by rw [he, h2], h3, by rw [h1]; simp, h4⟩⟩
/-- What a write and a flush leave. -/
def LaidP (B : Nat) (w : World) (F : Nat → Prop) (a : Nat) (pm : PM) (n dev N : Nat) (H : List (List UInt8)) (ws : Ws) (k : Nat) (b : List UInt8) (e : Ending) (w' : World) : Prop :=
  ∃ (F' : Nat → Prop) (pm' : PM), Frm B w F a pm (n + 2) dev F' pm' w' ∧
    ((e = .returned (.int .i64 0) ∧ Disk pm' dev N (setAll (ws ++ [(k, b)]) H) [] ∧ pm'.off = false) ∨
     (e = .returned (.int .i64 2) ∧ pm.fuse ≠ none ∧ pm'.off = true ∧ (Disk pm' dev N H ws ∨ Disk pm' dev N H (ws ++ [(k, b)]))))
set_option maxRecDepth 100000 in
set_option maxHeartbeats 4000000 in
theorem lay_on {B : Nat} {w : World} {F : Nat → Prop} {a : Nat} {pm : PM} {n dev N : Nat} {H : List (List UInt8)} {ws : Ws} (hst : St B w F a pm n) (hd : Disk pm dev N H ws) (hB : B ≤ w.heap.size) (hn : n ≤ 900000000) (hon : pm.off = false) (h2 : 2 ≤ N) (gen ep : Nat) (hg : gen < 18446744073709551616) (he : ep < 18446744073709551616)
    (ht : Tab w) (hgc : 0 < w.heap.size) :
    Calls Tryd.prog 36 #[.pointer (some ⟨a, 0, none⟩), .int .i64 (dev : Int), .int .u64 (gen : Int), .int .u64 (ep : Int)] w (LaidP B w F a pm n dev N H ws (gen % 2) (hdrB gen ep)) := by
  have HST := Lib.hid hst
  have HD := Lib.hid hd
  have HON := Lib.hid hon
  have HT := Lib.hid ht
  have HN1 := Lib.hid (number_yes none [] 0 0 1463897137 4 w rfl (by omega) (BAt.nil_ _ _) (by omega) (by omega) (by omega))
  clear hst hd hon ht
  go_enter Tryd.func36, Tryd.ntmps36
  go_wp2_with fail
  refine HN1.out.mono ?_
  rintro e w1 ⟨A1, N1, c1, rfl, ho1, hb1⟩
  obtain rfl : N1 = 4 := by have := ho1.len; simpa [beB_length] using this.symm
  have HB1 := Lib.hid hb1
  have HN2 := Lib.hid (number_yes A1 _ 4 c1 gen 4 w1 ho1.len (by omega) ho1.bat (by omega) (by omega) hg)
  clear ho1 hb1 HN1
  go_wp2_with fail
  refine HN2.out.mono ?_
  rintro e w2 ⟨A2, N2, c2, rfl, ho2, hb2⟩
  obtain rfl : N2 = 8 := by have := ho2.len; simpa [beB_length] using this.symm
  have HB2 := Lib.hid (HB1.out.trans (hb2.mono HB1.out.size))
  have HN3 := Lib.hid (number_yes A2 _ 8 c2 ep 4 w2 ho2.len (by omega) ho2.bat (by omega) (by omega) he)
  clear ho2 hb2 HN2
  go_wp2_with fail
  refine HN3.out.mono ?_
  rintro e w3 ⟨A3, N3, c3, rfl, ho3, hb3⟩
  obtain rfl : N3 = 12 := by have := ho3.len; simpa [beB_length] using this.symm
  have HB3 := Lib.hid (HB2.out.trans (hb3.mono HB2.out.size))
  have ho3' : Own w3 w2.heap.size 5 A3 12 c3 (hdrH gen ep) := ho3
  have HO3 := Lib.hid ho3'
  have HSM := Lib.hid (sum_any A3 (hdrH gen ep) 12 c3 w3 (hdrH_len gen ep) (by omega) ho3'.bat (HT.out.below HB3.out hgc))
  clear ho3 ho3' hb3 HN3
  go_wp2_with fail
  refine HSM.out.mono ?_
  rintro e _ ⟨rfl, rfl⟩
  have hS1 : U (more 0#32 (hdrH gen ep)) = (((more 0#32 (hdrH gen ep)).toNat : Nat) : Int) := rfl
  have hSl := (more 0#32 (hdrH gen ep)).isLt
  rw [hS1]
  obtain ⟨S, hS⟩ : ∃ S, (more 0#32 (hdrH gen ep)).toNat = S := ⟨_, rfl⟩
  rw [hS] at hSl ⊢
  have hw3 : IntKind.u64.wrap (S : Int) = (S : Int) := by rw [IntKind.wrap_u64]; omega
  have HN4 := Lib.hid (number_yes A3 (hdrH gen ep) 12 c3 S 4 w3 (hdrH_len gen ep) (by omega) HO3.out.bat (by omega) (by omega) (by omega))
  have HHB : Hid (hdrB gen ep = hdrH gen ep ++ beB S 4 ++ List.replicate 48 0) := Lib.hid (by unfold hdrB; rw [hS])
  clear hS1 hS HSM
  go_wp2_with fail
  refine HN4.out.mono ?_
  rintro e w4 ⟨A4, N4, c4, rfl, ho4, hb4⟩
  obtain rfl : N4 = 16 := by have := ho4.len; simpa [beB_length, hdrH_len] using this.symm
  have HB4 := Lib.hid (HB3.out.trans (hb4.mono HB3.out.size))
  have hfl := fill_any w4 w3.heap.size A4 16 c4 _ ho4 hb4.size (by omega)
  have HFL := Lib.hid hfl
  have HZ4 := Lib.hid hb4.size
  obtain ⟨r2, hr2⟩ : ∃ r, gen % 2 = r := ⟨_, rfl⟩
  have hr2I : (gen : Int) % 2 = (r2 : Int) := by omega
  have hr2l : r2 < 2 := by omega
  have hmod : Int.tmod (gen : Int) 2 = (r2 : Int) := by rw [Int.tmod_eq_emod_of_nonneg (by omega)]; exact hr2I
  have hwr : IntKind.i64.wrap (r2 : Int) = (r2 : Int) := IntWalk.i64_in _ (by omega)
  have HR2 := Lib.hid hr2
  clear ho4 hb4 hfl HN4 hr2
  go_wp2_with fail
  refine HFL.out.mono ?_
  rintro e w5 ⟨A5, c5, rfl, ho5, hb5⟩
  have HB5 := Lib.hid (HB4.out.trans (hb5.mono (Nat.le_trans HB3.out.size (Nat.le_refl _))))
  have hb' : BAt w5 A5 (hdrB gen ep) := by
    have := ho5.bat
    rw [HHB.out]
    simpa using this
  have HWR := Lib.hid (St.wrote (HST.out.below HB5.out) HD.out (Nat.le_trans hB HB5.out.size) (by omega) HON.out r2 (by omega) A5 c5 (hdrB gen ep) hb' (hdrB_len gen ep))
  clear ho5 hb5 hb' HFL
  go_wp2_with fail
  refine HWR.out.mono ?_
  rintro e w6 ⟨F6, pm6, hf6, ⟨rfl, hd6, hon6⟩ | ⟨rfl, hd6, hfu6, hoff6⟩⟩
  · have HF6 := Lib.hid (hf6.of_below HB5.out)
    have HD6 := Lib.hid hd6
    have HFL2 := Lib.hid (St.flushed hf6.st hd6 (Nat.le_trans (Nat.le_trans hB HB5.out.size) hf6.mods.size) (by omega) hon6)
    clear hf6 hd6 hon6 HWR
    go_wp2_with fail
    refine HFL2.out.mono ?_
    rintro e w7 ⟨F7, pm7, hf7, ⟨rfl, hd7, hon7⟩ | ⟨rfl, hd7, hfu7, hoff7⟩⟩
    · have HF7 := Lib.hid (HF6.out.trans hf7)
      have HD7 := Lib.hid (⟨hd7, hon7⟩ : _ ∧ _)
      clear hf7 hd7 hon7 HFL2
      go_wp2_with fail
      go_ret
      rw [HR2.out]
      exact ⟨F7, pm7, HF7.out, .inl ⟨rfl, HD7.out.1, HD7.out.2⟩⟩
    · have HF7 := Lib.hid (HF6.out.trans hf7)
      have HD7 := Lib.hid (⟨hd7, hoff7, fun e => hfu7 (HF6.out.fuse e)⟩ : _ ∧ _ ∧ pm.fuse ≠ none)
      clear hf7 hd7 hfu7 hoff7 HFL2
      go_wp2_with fail
      go_ret
      rw [HR2.out]
      exact ⟨F7, pm7, HF7.out, .inr ⟨rfl, HD7.out.2.2, HD7.out.2.1, .inr HD7.out.1⟩⟩
  · have HF6 := Lib.hid ((hf6.of_below HB5.out).more (show n + 1 ≤ n + 2 by omega))
    have HD6 := Lib.hid (⟨hd6, hfu6, hoff6⟩ : _ ∧ _ ∧ _)
    clear hf6 hd6 hfu6 hoff6 HWR
    go_wp2_with fail
    go_ret
    exact ⟨F6, pm6, HF6.out, .inr ⟨rfl, HD6.out.2.1, HD6.out.2.2, .inl HD6.out.1⟩⟩
end Go.Proofs.YtlnfeehokpkgiaaDoor.Wal
