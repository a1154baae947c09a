/- 'Boot' of a plant (printed by wip/genboot.py). -/
import Derived.Test.YtloffgoenaomkaaDoorFold5
namespace Go.Proofs.YtloffgoenaomkaaDoor.Pl
open Go Go.RowKit Mem
/-- What holds at the head of a round. -/
def BootR (w : World) (F : Nat → Prop) (V : Value) (p : PM) (keep : List Int) (iv : Value) (wr : World) : Prop :=
  ∃ q : Nat, q ≤ p.waits.length ∧ iv = .int .i64 (q : Int) ∧ EndMap wr w.heap.size (p.bootAt keep q).2 ∧ DevsAt wr F V (p.bootAt keep q).1 (wcOf p) ∧ CellsKept w wr ∧ Mods w.heap.size F w wr
def BootZ (w : World) (F : Nat → Prop) (V : Value) (p : PM) (keep : List Int) (iv : Value) (wr : World) : Prop :=
  ∃ q : Nat, q ≤ p.devs.length ∧ iv = .int .i64 (q : Int) ∧ DevsAt wr F V (p.bootAt keep p.waits.length).1 (fun i => if i < q then 0 else wcOf p i) ∧ CellsKept w wr ∧ Mods w.heap.size F w wr
theorem bootAt_ended (p : PM) (keep : List Int) : ∀ q, (p.bootAt keep q).2.length ≤ q
  | 0 => by simp [PM.bootAt, bootGo]
  | q + 1 => by
    cases hx : p.waits[q]? with
    | none =>
      have h := bootAt_ended p keep q
      have : p.bootAt keep (q + 1) = p.bootAt keep q := by
        unfold PM.bootAt
        rw [List.getElem?_eq_none_iff] at hx
        rw [List.take_of_length_le hx, List.take_of_length_le (by omega)]
      rw [this]
      omega
    | some x =>
      have h := bootAt_ended p keep q
      rw [PM.bootAt_next hx]
      unfold bootStep
      generalize p.bootAt keep q = s at h
      cases s.2.contains x.dev <;> simp only [Bool.false_eq_true, if_false, if_true]
      · split
        · show s.2.length ≤ _
          omega
        · split
          · split <;> simp <;> omega
          · omega
      · omega
theorem bs_ended {keep : List Int} {s : List Dev × List Nat} {q : Nat} {x : Wr} (h : s.2.contains x.dev = true) : bootStep keep s q x = s := by
  unfold bootStep
  rw [if_pos h]
theorem bs_odd {keep : List Int} {s : List Dev × List Nat} {q : Nat} {x : Wr} (h : s.2.contains x.dev = false) (hk : keepAt keep q % 2 = 1) : bootStep keep s q x = (settle s.1 x, s.2) := by
  unfold bootStep
  rw [h]
  simp only [Bool.false_eq_true, if_false]
  rw [if_pos (by omega)]
theorem bs_torn {keep : List Int} {s : List Dev × List Nat} {q : Nat} {x : Wr} {d : Dev} (h : s.2.contains x.dev = false) (hd : s.1[x.dev]? = some d) (ht : d.tape = true) (hk : keepAt keep q % 4 = 2) : bootStep keep s q x = (settle s.1 { x with b := torn x.b }, s.2 ++ [x.dev]) := by
  unfold bootStep
  rw [h, hd]
  simp only [Bool.false_eq_true, if_false, Option.any_some, ht, if_true]
  rw [if_neg (by omega), if_pos hk]
theorem bs_tape {keep : List Int} {s : List Dev × List Nat} {q : Nat} {x : Wr} {d : Dev} (h : s.2.contains x.dev = false) (hd : s.1[x.dev]? = some d) (ht : d.tape = true) (hk : keepAt keep q % 4 = 0) : bootStep keep s q x = (s.1, s.2 ++ [x.dev]) := by
  unfold bootStep
  rw [h, hd]
  simp only [Bool.false_eq_true, if_false, Option.any_some, ht, if_true]
  rw [if_neg (by omega), if_neg (by omega)]
theorem bs_disk {keep : List Int} {s : List Dev × List Nat} {q : Nat} {x : Wr} {d : Dev} (h : s.2.contains x.dev = false) (hd : s.1[x.dev]? = some d) (ht : d.tape = false) (hk : keepAt keep q % 2 = 0) : bootStep keep s q x = s := by
  unfold bootStep
  rw [h, hd]
  simp only [Bool.false_eq_true, if_false, Option.any_some, ht]
  rw [if_neg (by omega)]
theorem wrRow_torn (x : Wr) (h : x.b.length = 64) : (wrRow x).take 34 ++ (Builtin.zeroCells #[.int .u8 0] 32).toList ++ (wrRow x).drop (34 + 32 * 1) = wrRow { x with b := torn x.b } := by
  have hz : (Builtin.zeroCells #[.int .u8 0] 32).toList = (List.replicate 32 (0 : UInt8)).map B8 := by kernel_rfl
  have h1 : (wrRow x).take 34 = .int .i64 (x.dev : Int) :: .int .i64 (x.place : Int) :: (x.b.take 32).map B8 := by
    unfold wrRow
    rw [List.take_succ_cons, List.take_succ_cons, List.map_take]
  have h2 : (wrRow x).drop (34 + 32 * 1) = [] := List.drop_eq_nil_of_le (by rw [wrRow_len x h]; omega)
  rw [hz, h1, h2, List.append_nil]
  unfold wrRow torn
  simp
theorem elByte : ElTy Tryd.prog 38 5 1 1 (.int .u8 0) := ⟨Tryd.underlying38, by kernel_rfl, by kernel_rfl, by decide⟩
theorem elByte1 : ∀ v ∈ (Value.int .u8 0).cells.toList, v.oneCell' = true := by
  intro v hv
  have e : (Value.int .u8 0).cells.toList = [.int .u8 0] := by kernel_rfl
  rw [e] at hv
  simp at hv
  subst hv
  rfl
/-- The map of the ended has one more. -/
theorem end_step {w wm w5 : World} {F : Nat → Prop} {V : Value} {ds : List Dev} {wc : Nat → Nat} {es : List Nat} (hF : ¬ F w.heap.size) (he : EndMap wm w.heap.size es) (hg : wm.grownBy w5 (some w.heap.size)) (hd : DevsAt wm F V ds wc) (hk : CellsKept w wm) (hm : Mods w.heap.size F w wm) :
    DevsAt w5 F V ds wc ∧ CellsKept w w5 ∧ Mods w.heap.size F w w5 := by
  refine ⟨hd.mods (B := wm.heap.size) (G := fun g => g = w.heap.size) ((Mods.refl _ _ _).grown hg (Nat.le_refl _) fun g e => by injection e with e; exact .inl e.symm) fun g hlt hf => ⟨hlt, fun e => hF (by rw [← e]; exact hf)⟩, ?_, hm.grown hg hm.size fun g e => by injection e with e; omega⟩
  obtain ⟨D, ⟨es, clock, hb, _⟩, _⟩ := he
  exact hk.trans (CellsKept.map hb hg)
/-- The next round's state. -/
theorem BootR.mk_ {w wr : World} {F : Nat → Prop} {V : Value} {p : PM} {keep : List Int} {q : Nat} {s : List Dev × List Nat} (hq : q < p.waits.length) (hs : p.bootAt keep (q + 1) = s) (h1 : EndMap wr w.heap.size s.2) (h2 : DevsAt wr F V s.1 (wcOf p)) (h3 : CellsKept w wr) (h4 : Mods w.heap.size F w wr) : BootR w F V p keep (.int .i64 ((q : Int) + 1)) wr :=
  ⟨q + 1, hq, by simp, by rw [hs]; exact h1, by rw [hs]; exact h2, h3, h4⟩
/-- The last stores. -/
theorem boot_end {w wr : World} {F : Nat → Prop} {a : Nat} {p : PM} {keep : List Int} {D T V W : Value} (HB : PlantB w F a p (wcOf p) D T V W) (hke : CellsKept w wr) (hd : DevsAt wr F V (p.bootAt keep p.waits.length).1 (fun i => if i < p.devs.length then 0 else wcOf p i)) :
    PlantB (((wr.setCell ⟨a, 3, none⟩ (.slice none 0 0)).setCell ⟨a, 4, none⟩ (.bool false)).setCell ⟨a, 5, none⟩ (.int .i64 (-1))) F a (p.boot keep) (wcOf (p.boot keep)) D T V (.slice none 0 0) := by
  have hblk := hke.blk HB.blk (by decide)
  have hkeep : ∀ q, q ≠ a → (((wr.setCell ⟨a, 3, none⟩ (.slice none 0 0)).setCell ⟨a, 4, none⟩ (.bool false)).setCell ⟨a, 5, none⟩ (.int .i64 (-1))).heap[q]? = wr.heap[q]? := fun q hq =>
    (Below.heap_setCell _ ⟨a, 5, none⟩ _ q hq).trans ((Below.heap_setCell _ ⟨a, 4, none⟩ _ q hq).trans (Below.heap_setCell _ ⟨a, 3, none⟩ _ q hq))
  have hne : ∀ (q : Nat) (cs : Array Value) (t : TypeId), t ≠ 82 → wr.heap[q]? = some (.cells cs t (0, 0)) → q ≠ a := fun q cs t ht hq e => by
    subst e
    unfold Blk at hblk
    rw [hblk] at hq
    injection hq with hq
    injection hq with _ hq
    exact ht hq.symm
  have hwc : wcOf (p.boot keep) = fun i => if i < p.devs.length then 0 else wcOf p i := by
    funext i
    have h1 : wcOf (p.boot keep) i = 0 := by
      unfold wcOf
      split
      · rfl
      · rfl
    rw [h1]
    split
    · rfl
    · rename_i hi
      unfold wcOf
      rw [List.getElem?_eq_none (by omega)]
      rfl
  rw [hwc]
  rw [PM.boot_eq]
  refine ⟨?_, HB.own, (hke.vec HB.disks (by decide)).heap fun q cs hq => (hkeep q (hne q cs _ (by decide) hq)).trans hq, (hke.vec HB.tapes (by decide)).heap fun q cs hq => (hkeep q (hne q cs _ (by decide) hq)).trans hq, ?_, Vec.nil_ _ _ _ _ _⟩
  · have hb := ((hblk.set_ 3 (.slice none 0 0)).set_ 4 (.bool false)).set_ 5 (.int .i64 (-1))
    simpa [plCells, PM.fuseI] using hb
  · refine hd.heap (fun q cs hq => (hkeep q (hne q cs _ (by decide) hq)).trans hq) (fun q es c hq => (hkeep q ?_).trans hq)
    rintro rfl
    unfold Blk at hblk
    rw [hblk] at hq
    cases hq
set_option maxRecDepth 100000 in
set_option maxHeartbeats 8000000 in
theorem boot_any {w : World} {F0 : Nat → Prop} {a : Nat} {p : PM} (h : PlantAt w F0 a p) (hok : p.Ok) (hlow : p.Low) (AK : Option Addr) (nk ck : Nat) (keep : List Int) (hkp : IAt w AK keep) (hkl : keep.length = nk) (hkn : keep ≠ [] → ∀ ad, AK = some ad → ¬ F0 ad.block) (hnk : nk ≤ 9223372036854775807) :
    Calls Tryd.prog 33 #[.pointer (some ⟨a, 0, none⟩), .slice AK nk ck] w fun e w' => e = .returned (.tuple #[]) ∧ PlantAt w' F0 a (p.boot keep) ∧ Mods w.heap.size F0 w w' := by
  obtain ⟨F, hF⟩ : ∃ F : Nat → Prop, F = fun g => F0 g ∧ g < w.heap.size := ⟨_, rfl⟩
  have hp0 := h.mono (G := F) fun g hg h => by rw [hF]; exact ⟨h, hg⟩
  have HFm : Hid (¬ F w.heap.size) := Lib.hid (by rw [hF]; exact fun h => absurd h.2 (Nat.lt_irrefl _))
  have HFK : Hid (keep ≠ [] → ∀ ad, AK = some ad → ¬ F ad.block) := Lib.hid fun hne ad hA h => hkn hne ad hA (by rw [hF] at h; exact h.1)
  have HF0 : Hid (∀ g, F g → F0 g) := Lib.hid fun g h => by rw [hF] at h; exact h.1
  have HK := Lib.hid hkp
  have HKL := Lib.hid hkl
  have HOK := Lib.hid hok
  have HLOW := Lib.hid hlow
  have HINV := Lib.hid (hok.bootInv keep)
  clear h hF hkp hkn
  obtain ⟨D, T, V, W, hp⟩ := hp0
  obtain ⟨AW, cW, rfl⟩ := Vec.shape hp.waits
  obtain ⟨g, c1, rfl⟩ := hp.devs.form hok.n1
  have HB := Lib.hid hp
  have hal := hp.blk.lt
  have hdn := hok.n12
  have hwn := hlow.waits
  have hAK2 : AK = none ∨ ∃ ad, AK = some ad := by cases AK <;> simp
  clear hp hok hlow hkl
  have hmm := @run_makeMap Tryd.prog
  have hb1 := HB.out.blk.alloc (.map #[] 0)
  have h3 := (hb1.cell 3).trans (show _ = some (.slice AW p.waits.length cW) from rfl)
  have HST : Hid (BootR w F (.slice (some ⟨g, 0, none⟩) p.devs.length c1) p keep (.int .i64 0) (w.alloc (.map #[] 0))) := Lib.hid ⟨0, Nat.zero_le _, rfl, EndMap.made w, (HB.out.devs.mods (Mods.of_below (F := fun _ => False) (below_al' _)) fun g hg _ => ⟨hg, fun x => x⟩), CellsKept.below (below_al' _), Mods.of_below (below_al' _)⟩
  clear hb1
  have hwn2 : (p.waits.length : Int) ≤ 9223372036854775806 := by omega
  go_enter Tryd.func33, Tryd.ntmps33
  go_wp2_with fail
  clear h3 hmm
  go_loopw [18] (fun iv wr => BootR w F (.slice (some ⟨g, 0, none⟩) p.devs.length c1) p keep iv wr) (fun iv _ => p.waits.length - (intOf iv).toNat)
  case atStart => exact HST.out
  case round =>
    obtain ⟨q, hq, rfl, hend, hdv, hke, hmo⟩ := hrel
    have HEND := Lib.hid hend
    have HDV := Lib.hid hdv
    have HKE := Lib.hid hke
    have HMO := Lib.hid hmo
    clear hend hdv hke hmo
    by_cases hlt : q < p.waits.length
    · obtain ⟨gw, _, _, hv, _⟩ := Vec.form HB.out.waits (by omega)
      injection hv with hA _ hcp
      subst hA
      clear hcp
      obtain ⟨x, hx⟩ : ∃ x, p.waits[q]? = some x := ⟨_, List.getElem?_eq_getElem hlt⟩
      have HX := Lib.hid hx
      have HX64 := Lib.hid (HOK.out.wlen x (List.mem_of_getElem? hx))
      have hxd := HOK.out.wdev x (List.mem_of_getElem? hx)
      have HNX := Lib.hid (PM.bootAt_next (keep := keep) hx)
      obtain ⟨dx, hdx⟩ : ∃ dx, p.devs[x.dev]? = some dx := ⟨_, List.getElem?_eq_getElem hxd⟩
      obtain ⟨d, hd, ht, hm, hdk, htp, htl, _⟩ := (HINV.out q hq).dev x.dev dx hdx
      have HDX := Lib.hid hdx
      have HD := Lib.hid hd
      have HT := Lib.hid ht
      have HM := Lib.hid hm
      have HDK := Lib.hid hdk
      have HTP := Lib.hid htp
      have HTL := Lib.hid htl
      have HWr : Hid (WaitsAt wr F (.slice (some ⟨gw, 0, none⟩) p.waits.length cW) p.waits) := Lib.hid (HKE.out.vec HB.out.waits (by decide))
      have HRG := Lib.hid (HWr.out.row HOK.out.wlen HX.out)
      have HEL := Lib.hid (bootAt_ended p keep q)
      have hsz : w.heap.size ≤ wr.heap.size := HMO.out.size
      -- facts in a world with the copy
      have HFACT : Hid (∀ w3 : World, Below wr.heap.size wr w3 → w3.cell? ⟨a, 2, none⟩ = some (.slice (some ⟨g, 0, none⟩) p.devs.length c1) ∧ EndMap w3 w.heap.size (p.bootAt keep q).2 ∧ DevsAt w3 F (.slice (some ⟨g, 0, none⟩) p.devs.length c1) (p.bootAt keep q).1 (wcOf p) ∧ CellsKept w w3 ∧ Mods w.heap.size F w w3 ∧ w3.cell? ⟨g, x.dev * 5, none⟩ = some (.bool d.tape) ∧ IAt w3 AK keep) := Lib.hid fun w3 hb => by
        have hd3 := HDV.out.mods (Mods.of_below (F := fun _ => False) hb) fun g hg _ => ⟨hg, fun x => x⟩
        obtain ⟨m, _, _, k0, _⟩ := hd3.cells HD.out
        have hk3 := HKE.out.trans (CellsKept.below hb)
        have hm3 := HMO.out.then_below hb hsz
        refine ⟨((hk3.blk HB.out.blk (by decide)).cell 2).trans rfl, HEND.out.heap (hb.block _ HEND.out.lt), hd3, hk3, hm3, by simpa using k0, HK.out.mods hm3 (Nat.le_refl _) HFK.out⟩
      clear hx hdx hd ht hm hdk htp htl
      have HF6 : Hid (∀ w3 w6 : World, Below wr.heap.size wr w3 → w3.drew.grownBy w6 (some wr.heap.size) → w3.cell? ⟨a, 2, none⟩ = some (.slice (some ⟨g, 0, none⟩) p.devs.length c1) → w6.cell? ⟨a, 2, none⟩ = some (.slice (some ⟨g, 0, none⟩) p.devs.length c1)) := Lib.hid fun w3 w6 hb hg6 hc => by
        have hlt6 : a < wr.heap.size := by omega
        have := hg6.block a (by show a < w3.heap.size; exact Nat.lt_of_lt_of_le hlt6 hb.size) (by intro e; injection e with e; omega)
        simp only [World.cell?] at hc ⊢
        rw [this]
        exact hc
      have HG6 : Hid (∀ w3 w6 : World, Below wr.heap.size wr w3 → w3.drew.grownBy w6 (some wr.heap.size) → EndMap w3 w.heap.size (p.bootAt keep q).2 → DevsAt w3 F (.slice (some ⟨g, 0, none⟩) p.devs.length c1) (p.bootAt keep q).1 (wcOf p) → CellsKept w w3 → Mods w.heap.size F w w3 →
          EndMap w6 w.heap.size (p.bootAt keep q).2 ∧ DevsAt w6 F (.slice (some ⟨g, 0, none⟩) p.devs.length c1) (p.bootAt keep q).1 (wcOf p) ∧ CellsKept w w6 ∧ Mods w.heap.size F w w6) := Lib.hid fun w3 w6 hb hg6 _ _ _ _ => by
        have hb6 : Below wr.heap.size wr w6 := (hb.drew).grown hg6 hb.size (fun q hq => by injection hq with hq; omega)
        obtain ⟨_, fe, fd, fk, fm, _⟩ := HFACT.out w6 hb6
        exact ⟨fe, fd, fk, fm⟩
      obtain rfl | hpos : nk = 0 ∨ 0 < nk := Nat.eq_zero_or_pos nk
      · by_cases hc : (p.bootAt keep q).2.contains x.dev = true
        · go_wp2_with
            (refine wpList_load_mid rfl 117 (.tmp 21) rfl gw (q * 66) rfl (wrRow x) _ HRG.out Tryd.underlying117 rfl (by rw [wrRow_len _ HX64.out]; kernel_rfl) ?_
             go_wp2_with
               (refine wpList_store_all rfl 117 (.tmp 6) (.tmp 22) rfl wr.heap.size 117 Tryd.zeroCells117.toList (wrRow x) rfl rfl (Blk.new wr _ _) (by rw [wrRow_len _ HX64.out]; kernel_rfl) (by rw [wrRow_len _ HX64.out]; kernel_rfl) (wrRow_one _) ?_
                intro w3 hb3 hg3 hz3
                have e0 := (hb3.cell 0).trans (show _ = some (.int .i64 (x.dev : Int)) from rfl)
                have HX3 := Lib.hid hb3
                have HW3 : Hid (Below wr.heap.size wr w3) := Lib.hid ((below_al' (.cells Tryd.zeroCells117 117)).grown hg3 (by simp) (fun q hq => by injection hq with hq; omega))
                obtain ⟨f2, fe, fd, fk, fm, ft, fi⟩ := HFACT.out w3 HW3.out
                have FE := Lib.hid fe
                have FD := Lib.hid fd
                have FK := Lib.hid fk
                have FM := Lib.hid fm
                have FI := Lib.hid fi
                obtain ⟨vE, hlk⟩ := (show EndMap w3.drew w.heap.size (p.bootAt keep q).2 from fe).run_lookup (j := x.dev) (by omega)
                rw [hc] at hlk
                clear hb3 hg3 hz3 fe fd fk fm fi))
          refine Ord.region_ord [] [0, 1, 2, 3, 4, 5, 6, 7, 8, 9] (by kernel_rfl) (by kernel_rfl) (by kernel_rfl) (by kernel_rfl) (Ord.ord_all [_, _, _, _, _, _, _, _, _, _] rfl (by kernel_rfl) ?_)
          go_wp2_with fail
          refine Ord.nx_end ?_
          go_wp2_with fail
          go_roundw
          case rel => exact BootR.mk_ (wr := w3.drew) hlt (HNX.out.trans (bs_ended hc)) FE.out FD.out FK.out FM.out.drew
          case measure => simp [intOf]; omega
        · replace hc : (p.bootAt keep q).2.contains x.dev = false := by simpa using hc
          have hm0 := HOK.out.most x.dev dx HDX.out
          have HPL : Hid (x.place < d.most) := Lib.hid (by rw [HM.out]; exact HOK.out.wplace x (List.mem_of_getElem? HX.out) dx HDX.out)
          have HMX : Hid (d.most ≤ 4096) := Lib.hid (by rw [HM.out]; exact hm0.2.2)
          have HM4 : Hid (d.has.length ≤ 4096) := Lib.hid (by
            have h1 := HOK.out.room x.dev dx HDX.out
            have h2 := HOK.out.disk x.dev dx HDX.out
            have h3 := cnt_take_le p.waits q x.dev
            cases htx : dx.tape with
            | true => have := HTL.out htx; have := h1 htx; omega
            | false => have := HDK.out htx; have := h2 htx; omega)
          have HAT : Hid (if d.tape then x.place = d.has.length else x.place < d.has.length) := Lib.hid (by
            have h1 := HOK.out.disk x.dev dx HDX.out
            rw [HT.out]
            cases htx : dx.tape with
            | true =>
              rw [if_pos rfl, HTP.out htx hc]
              exact HOK.out.place_at HDX.out htx HX.out rfl
            | false =>
              rw [if_neg (by simp), HDK.out htx, h1 htx]
              have := HPL.out
              have := HM.out
              omega)
          clear hm0
          cases htt : d.tape with
          | true =>
            have HTT := Lib.hid htt
            clear htt
            have HKA : Hid (keepAt keep q % 4 = 0) := Lib.hid (by unfold keepAt; rw [if_pos HKL.out]; rfl)
            have hba : bits BinOp.and IntKind.i64 0 1 = 0 := by decide
            have hbb : bits BinOp.and IntKind.i64 0 3 = 0 := by decide
            go_wp2_with
              (refine wpList_load_mid rfl 117 (.tmp 21) rfl gw (q * 66) rfl (wrRow x) _ HRG.out Tryd.underlying117 rfl (by rw [wrRow_len _ HX64.out]; kernel_rfl) ?_
               go_wp2_with
                 (refine wpList_store_all rfl 117 (.tmp 6) (.tmp 22) rfl wr.heap.size 117 Tryd.zeroCells117.toList (wrRow x) rfl rfl (Blk.new wr _ _) (by rw [wrRow_len _ HX64.out]; kernel_rfl) (by rw [wrRow_len _ HX64.out]; kernel_rfl) (wrRow_one _) ?_
                  intro w3 hb3 hg3 hz3
                  have e0 := (hb3.cell 0).trans (show _ = some (.int .i64 (x.dev : Int)) from rfl)
                  have HX3 := Lib.hid hb3
                  have HW3 : Hid (Below wr.heap.size wr w3) := Lib.hid ((below_al' (.cells Tryd.zeroCells117 117)).grown hg3 (by simp) (fun q hq => by injection hq with hq; omega))
                  obtain ⟨f2, fe, fd, fk, fm, ft, fi⟩ := HFACT.out w3 HW3.out
                  have FE := Lib.hid fe
                  have FD := Lib.hid fd
                  have FK := Lib.hid fk
                  have FM := Lib.hid fm
                  have FI := Lib.hid fi
                  obtain ⟨vE, hlk⟩ := (show EndMap w3.drew w.heap.size (p.bootAt keep q).2 from fe).run_lookup (j := x.dev) (by omega)
                  rw [hc] at hlk
                  rw [HTT.out] at ft
                  clear hb3 hg3 hz3 fe fd fk fm fi))
            refine Ord.region_ord [] [0, 1, 2, 3, 4, 5, 6, 7, 8, 9] (by kernel_rfl) (by kernel_rfl) (by kernel_rfl) (by kernel_rfl) (Ord.ord_all [_, _, _, _, _, _, _, _, _, _] rfl (by kernel_rfl) ?_)
            go_wp2_with fail
            refine Ord.nx_end ?_
            go_wp2_with
              (refine wpList_put_end rfl (.tmp 75) (.tmp 77) (.tmp 78) rfl w.heap.size (p.bootAt keep q).2 x.dev q rfl rfl rfl (show EndMap w3.drew _ _ from FE.out) (by omega) (by omega) (by have := HEL.out; omega) ?_
               intro w5 he5 hg5
               have HE5 := Lib.hid he5
               have HG5 := Lib.hid hg5
               clear he5 hg5)
            go_roundw
            case rel =>
              obtain ⟨r1, r2, r3⟩ := end_step HFm.out (show EndMap w3.drew _ _ from FE.out) HG5.out FD.out FK.out FM.out.drew
              exact BootR.mk_ hlt (HNX.out.trans (bs_tape hc HD.out HTT.out HKA.out)) HE5.out r1 r2 r3
            case measure => simp [intOf]; omega
          | false =>
            have HTT := Lib.hid htt
            clear htt
            have HKA : Hid (keepAt keep q % 2 = 0) := Lib.hid (by unfold keepAt; rw [if_pos HKL.out]; rfl)
            have hba : bits BinOp.and IntKind.i64 0 1 = 0 := by decide
            have hbb : bits BinOp.and IntKind.i64 0 3 = 0 := by decide
            go_wp2_with
              (refine wpList_load_mid rfl 117 (.tmp 21) rfl gw (q * 66) rfl (wrRow x) _ HRG.out Tryd.underlying117 rfl (by rw [wrRow_len _ HX64.out]; kernel_rfl) ?_
               go_wp2_with
                 (refine wpList_store_all rfl 117 (.tmp 6) (.tmp 22) rfl wr.heap.size 117 Tryd.zeroCells117.toList (wrRow x) rfl rfl (Blk.new wr _ _) (by rw [wrRow_len _ HX64.out]; kernel_rfl) (by rw [wrRow_len _ HX64.out]; kernel_rfl) (wrRow_one _) ?_
                  intro w3 hb3 hg3 hz3
                  have e0 := (hb3.cell 0).trans (show _ = some (.int .i64 (x.dev : Int)) from rfl)
                  have HX3 := Lib.hid hb3
                  have HW3 : Hid (Below wr.heap.size wr w3) := Lib.hid ((below_al' (.cells Tryd.zeroCells117 117)).grown hg3 (by simp) (fun q hq => by injection hq with hq; omega))
                  obtain ⟨f2, fe, fd, fk, fm, ft, fi⟩ := HFACT.out w3 HW3.out
                  have FE := Lib.hid fe
                  have FD := Lib.hid fd
                  have FK := Lib.hid fk
                  have FM := Lib.hid fm
                  have FI := Lib.hid fi
                  obtain ⟨vE, hlk⟩ := (show EndMap w3.drew w.heap.size (p.bootAt keep q).2 from fe).run_lookup (j := x.dev) (by omega)
                  rw [hc] at hlk
                  rw [HTT.out] at ft
                  clear hb3 hg3 hz3 fe fd fk fm fi))
            refine Ord.region_ord [] [0, 1, 2, 3, 4, 5, 6, 7, 8, 9] (by kernel_rfl) (by kernel_rfl) (by kernel_rfl) (by kernel_rfl) (Ord.ord_all [_, _, _, _, _, _, _, _, _, _] rfl (by kernel_rfl) ?_)
            go_wp2_with fail
            refine Ord.nx_end ?_
            go_wp2_with fail
            go_roundw
            case rel => exact BootR.mk_ (wr := w3.drew) hlt (HNX.out.trans (bs_disk hc HD.out HTT.out HKA.out)) FE.out FD.out FK.out FM.out.drew
            case measure => simp [intOf]; omega
      · obtain rfl | ⟨ad, rfl⟩ := hAK2
        · exact absurd HK.out (by
            rintro (h | ⟨ad, h, _⟩)
            · have := HKL.out
              rw [h] at this
              simp at this
              omega
            · cases h)
        have hqm : q % nk < nk := Nat.mod_lt _ hpos
        obtain ⟨z, hz⟩ : ∃ z, keep[q % nk]? = some z := ⟨_, List.getElem?_eq_getElem (by rw [HKL.out]; exact hqm)⟩
        have HKZ : Hid (keepAt keep q = z) := Lib.hid (by
          unfold keepAt
          rw [HKL.out, if_neg (by omega), List.getD_eq_getElem?_getD, hz]
          rfl)
        have HCZ : Hid (∀ w3 : World, IAt w3 (some ad) keep → w3.cell? (ad.add (q % nk)) = some (.int .i64 z)) := Lib.hid fun w3 fi => by
          rcases fi with h | ⟨ad', hA, hcz⟩
          · rw [h] at hz
            simp at hz
          · injection hA with hA
            subst hA
            exact hcz _ _ hz
        clear hz
        have hposI : (0 : Int) < (nk : Int) := by omega
        have htm : (q : Int).tmod (nk : Int) = ((q % nk : Nat) : Int) := rfl
        have hqi : ((q % nk : Nat) : Int) < (nk : Int) := by omega
        by_cases hc : (p.bootAt keep q).2.contains x.dev = true
        · go_wp2_with
            (refine wpList_load_mid rfl 117 (.tmp 21) rfl gw (q * 66) rfl (wrRow x) _ HRG.out Tryd.underlying117 rfl (by rw [wrRow_len _ HX64.out]; kernel_rfl) ?_
             go_wp2_with
               (refine wpList_store_all rfl 117 (.tmp 6) (.tmp 22) rfl wr.heap.size 117 Tryd.zeroCells117.toList (wrRow x) rfl rfl (Blk.new wr _ _) (by rw [wrRow_len _ HX64.out]; kernel_rfl) (by rw [wrRow_len _ HX64.out]; kernel_rfl) (wrRow_one _) ?_
                intro w3 hb3 hg3 hz3
                have e0 := (hb3.cell 0).trans (show _ = some (.int .i64 (x.dev : Int)) from rfl)
                have HX3 := Lib.hid hb3
                have HW3 : Hid (Below wr.heap.size wr w3) := Lib.hid ((below_al' (.cells Tryd.zeroCells117 117)).grown hg3 (by simp) (fun q hq => by injection hq with hq; omega))
                obtain ⟨f2, fe, fd, fk, fm, ft, fi⟩ := HFACT.out w3 HW3.out
                have FE := Lib.hid fe
                have FD := Lib.hid fd
                have FK := Lib.hid fk
                have FM := Lib.hid fm
                have FI := Lib.hid fi
                obtain ⟨vE, hlk⟩ := (show EndMap w3.drew w.heap.size (p.bootAt keep q).2 from fe).run_lookup (j := x.dev) (by omega)
                rw [hc] at hlk
                have fz := HCZ.out w3 fi
                clear hb3 hg3 hz3 fe fd fk fm fi))
          refine Ord.region_ord [] [0, 1, 2, 3, 4, 5, 6, 7, 8, 9] (by kernel_rfl) (by kernel_rfl) (by kernel_rfl) (by kernel_rfl) (Ord.ord_all [_, _, _, _, _, _, _, _, _, _] rfl (by kernel_rfl) ?_)
          go_wp2_with fail
          refine Ord.nx_end ?_
          go_wp2_with fail
          go_roundw
          case rel => exact BootR.mk_ (wr := w3.drew) hlt (HNX.out.trans (bs_ended hc)) FE.out FD.out FK.out FM.out.drew
          case measure => simp [intOf]; omega
        · replace hc : (p.bootAt keep q).2.contains x.dev = false := by simpa using hc
          have hm0 := HOK.out.most x.dev dx HDX.out
          have HPL : Hid (x.place < d.most) := Lib.hid (by rw [HM.out]; exact HOK.out.wplace x (List.mem_of_getElem? HX.out) dx HDX.out)
          have HMX : Hid (d.most ≤ 4096) := Lib.hid (by rw [HM.out]; exact hm0.2.2)
          have HM4 : Hid (d.has.length ≤ 4096) := Lib.hid (by
            have h1 := HOK.out.room x.dev dx HDX.out
            have h2 := HOK.out.disk x.dev dx HDX.out
            have h3 := cnt_take_le p.waits q x.dev
            cases htx : dx.tape with
            | true => have := HTL.out htx; have := h1 htx; omega
            | false => have := HDK.out htx; have := h2 htx; omega)
          have HAT : Hid (if d.tape then x.place = d.has.length else x.place < d.has.length) := Lib.hid (by
            have h1 := HOK.out.disk x.dev dx HDX.out
            rw [HT.out]
            cases htx : dx.tape with
            | true =>
              rw [if_pos rfl, HTP.out htx hc]
              exact HOK.out.place_at HDX.out htx HX.out rfl
            | false =>
              rw [if_neg (by simp), HDK.out htx, h1 htx]
              have := HPL.out
              have := HM.out
              omega)
          clear hm0
          cases htt : d.tape with
          | true =>
            have HTT := Lib.hid htt
            clear htt
            by_cases hodd : z % 2 = 1
            · have HKA : Hid (keepAt keep q % 2 = 1) := Lib.hid (by rw [HKZ.out]; exact hodd)
              have hba : bits BinOp.and IntKind.i64 z 1 = 1 := (and_1 z).trans hodd
              have HY64 := HX64
              clear hodd
              go_wp2_with
                (refine wpList_load_mid rfl 117 (.tmp 21) rfl gw (q * 66) rfl (wrRow x) _ HRG.out Tryd.underlying117 rfl (by rw [wrRow_len _ HX64.out]; kernel_rfl) ?_
                 go_wp2_with
                   (refine wpList_store_all rfl 117 (.tmp 6) (.tmp 22) rfl wr.heap.size 117 Tryd.zeroCells117.toList (wrRow x) rfl rfl (Blk.new wr _ _) (by rw [wrRow_len _ HX64.out]; kernel_rfl) (by rw [wrRow_len _ HX64.out]; kernel_rfl) (wrRow_one _) ?_
                    intro w3 hb3 hg3 hz3
                    have e0 := (hb3.cell 0).trans (show _ = some (.int .i64 (x.dev : Int)) from rfl)
                    have HX3 := Lib.hid hb3
                    have HW3 : Hid (Below wr.heap.size wr w3) := Lib.hid ((below_al' (.cells Tryd.zeroCells117 117)).grown hg3 (by simp) (fun q hq => by injection hq with hq; omega))
                    obtain ⟨f2, fe, fd, fk, fm, ft, fi⟩ := HFACT.out w3 HW3.out
                    have FE := Lib.hid fe
                    have FD := Lib.hid fd
                    have FK := Lib.hid fk
                    have FM := Lib.hid fm
                    have FI := Lib.hid fi
                    obtain ⟨vE, hlk⟩ := (show EndMap w3.drew w.heap.size (p.bootAt keep q).2 from fe).run_lookup (j := x.dev) (by omega)
                    rw [hc] at hlk
                    rw [HTT.out] at ft
                    have fz := HCZ.out w3 fi
                    clear hb3 hg3 hz3 fe fd fk fm fi))
              refine Ord.region_ord [] [0, 1, 2, 3, 4, 5, 6, 7, 8, 9] (by kernel_rfl) (by kernel_rfl) (by kernel_rfl) (by kernel_rfl) (Ord.ord_all [_, _, _, _, _, _, _, _, _, _] rfl (by kernel_rfl) ?_)
              go_wp2_with fail
              refine Ord.nx_end ?_
              go_wp2_with
                (refine wpList_load_mid rfl 117 (.tmp 6) rfl wr.heap.size 0 rfl (wrRow x) _ (blk_range HX3.out 0 _ (fun j v hv => by rw [Nat.zero_add]; exact hv)) Tryd.underlying117 rfl (by rw [wrRow_len _ HY64.out]; kernel_rfl) ?_)
              refine (settle_any (w := w3.drew) f2 (show DevsAt w3.drew F _ _ _ from FD.out) x HD.out HY64.out (show x.place < 4096 by have := HPL.out; have := HMX.out; omega) HAT.out HM4.out).mono ?_
              rintro e w4 ⟨rfl, fd4, fk4, fm4⟩
              have e4 := ((fk4.blk (show Blk w3.drew wr.heap.size 117 (wrRow x).toArray from HX3.out) (by decide)).cell 0).trans (show _ = some (.int .i64 (x.dev : Int)) from rfl)
              have FD4 := Lib.hid fd4
              have FK4 : Hid (CellsKept w w4) := Lib.hid (FK.out.trans fk4)
              have FM4 : Hid (Mods w.heap.size F w w4) := Lib.hid (FM.out.drew.trans (fm4.mono (FM.out.drew.size) fun _ _ h => h))
              have FE4 : Hid (EndMap w4 w.heap.size (p.bootAt keep q).2) := Lib.hid ((show EndMap w3.drew _ _ from FE.out).heap (fm4.keep _ FE.out.lt HFm.out))
              clear fd4 fk4 fm4
              go_wp2_with fail
              go_roundw
              case rel => exact BootR.mk_ hlt (HNX.out.trans (bs_odd hc HKA.out)) FE4.out FD4.out FK4.out FM4.out
              case measure => simp [intOf]; omega
            · by_cases h42 : z % 4 = 2
              · have HKA : Hid (keepAt keep q % 4 = 2) := Lib.hid (by rw [HKZ.out]; exact h42)
                have hba : bits BinOp.and IntKind.i64 z 1 = 0 := (and_1 z).trans (by omega)
                have hbb : bits BinOp.and IntKind.i64 z 3 = 2 := (and_3 z).trans h42
                have HY64 : Hid (({ x with b := torn x.b } : Wr).b.length = 64) := Lib.hid (torn_len HX64.out)
                clear hodd h42
                go_wp2_with
                  (refine wpList_load_mid rfl 117 (.tmp 21) rfl gw (q * 66) rfl (wrRow x) _ HRG.out Tryd.underlying117 rfl (by rw [wrRow_len _ HX64.out]; kernel_rfl) ?_
                   go_wp2_with
                     (refine wpList_store_all rfl 117 (.tmp 6) (.tmp 22) rfl wr.heap.size 117 Tryd.zeroCells117.toList (wrRow x) rfl rfl (Blk.new wr _ _) (by rw [wrRow_len _ HX64.out]; kernel_rfl) (by rw [wrRow_len _ HX64.out]; kernel_rfl) (wrRow_one _) ?_
                      intro w3 hb3 hg3 hz3
                      have e0 := (hb3.cell 0).trans (show _ = some (.int .i64 (x.dev : Int)) from rfl)
                      have HX3 := Lib.hid hb3
                      have HW3 : Hid (Below wr.heap.size wr w3) := Lib.hid ((below_al' (.cells Tryd.zeroCells117 117)).grown hg3 (by simp) (fun q hq => by injection hq with hq; omega))
                      obtain ⟨f2, fe, fd, fk, fm, ft, fi⟩ := HFACT.out w3 HW3.out
                      have FE := Lib.hid fe
                      have FD := Lib.hid fd
                      have FK := Lib.hid fk
                      have FM := Lib.hid fm
                      have FI := Lib.hid fi
                      obtain ⟨vE, hlk⟩ := (show EndMap w3.drew w.heap.size (p.bootAt keep q).2 from fe).run_lookup (j := x.dev) (by omega)
                      rw [hc] at hlk
                      rw [HTT.out] at ft
                      have fz := HCZ.out w3 fi
                      clear hb3 hg3 hz3 fe fd fk fm fi))
                refine Ord.region_ord [] [0, 1, 2, 3, 4, 5, 6, 7, 8, 9] (by kernel_rfl) (by kernel_rfl) (by kernel_rfl) (by kernel_rfl) (Ord.ord_all [_, _, _, _, _, _, _, _, _, _] rfl (by kernel_rfl) ?_)
                go_wp2_with fail
                refine Ord.nx_end ?_
                go_wp2_with
                  (refine wpList_clear_in rfl (.tmp 65) 38 rfl elByte elByte1 wr.heap.size 34 32 32 117 (wrRow x) rfl (by omega) (show Blk w3.drew _ _ _ from HX3.out) (by rw [wrRow_len _ HX64.out]; omega) ?_
                   intro w6 hb6 hg6 hz6
                   have hb7 : Blk w6 wr.heap.size 117 (wrRow { x with b := torn x.b }).toArray := by
                     have := wrRow_torn x HX64.out
                     rw [← this]
                     exact hb6
                   have HX6 := Lib.hid hb7
                   have g2 := HF6.out w3 w6 HW3.out hg6 f2
                   have HF7 := Lib.hid (HG6.out w3 w6 HW3.out hg6 FE.out FD.out FK.out FM.out)
                   have e6 := (hb7.cell 0).trans (show _ = some (.int .i64 (x.dev : Int)) from rfl)
                   clear hb6 hg6 hz6 hb7 e0
                   go_wp2_with
                     (refine wpList_load_mid rfl 117 (.tmp 6) rfl wr.heap.size 0 rfl (wrRow { x with b := torn x.b }) _ (blk_range HX6.out 0 _ (fun j v hv => by rw [Nat.zero_add]; exact hv)) Tryd.underlying117 rfl (by rw [wrRow_len _ HY64.out]; kernel_rfl) ?_))
                refine (settle_any (w := w6) g2 HF7.out.2.1 { x with b := torn x.b } HD.out HY64.out (show x.place < 4096 by have := HPL.out; have := HMX.out; omega) HAT.out HM4.out).mono ?_
                rintro e w4 ⟨rfl, fd4, fk4, fm4⟩
                have e4 := ((fk4.blk (show Blk w6 wr.heap.size 117 (wrRow { x with b := torn x.b }).toArray from HX6.out) (by decide)).cell 0).trans (show _ = some (.int .i64 (x.dev : Int)) from rfl)
                have FD4 := Lib.hid fd4
                have FK4 : Hid (CellsKept w w4) := Lib.hid (HF7.out.2.2.1.trans fk4)
                have FM4 : Hid (Mods w.heap.size F w w4) := Lib.hid (HF7.out.2.2.2.trans (fm4.mono (HF7.out.2.2.2.size) fun _ _ h => h))
                have FE4 : Hid (EndMap w4 w.heap.size (p.bootAt keep q).2) := Lib.hid (HF7.out.1.heap (fm4.keep _ HF7.out.1.lt HFm.out))
                clear fd4 fk4 fm4
                go_wp2_with
                  (refine wpList_put_end rfl (.tmp 75) (.tmp 77) (.tmp 78) rfl w.heap.size (p.bootAt keep q).2 x.dev q rfl rfl rfl FE4.out (by omega) (by omega) (by have := HEL.out; omega) ?_
                   intro w5 he5 hg5
                   have HE5 := Lib.hid he5
                   have HG5 := Lib.hid hg5
                   clear he5 hg5)
                go_roundw
                case rel =>
                  obtain ⟨r1, r2, r3⟩ := end_step HFm.out FE4.out HG5.out FD4.out FK4.out FM4.out
                  exact BootR.mk_ hlt (HNX.out.trans (bs_torn hc HD.out HTT.out HKA.out)) HE5.out r1 r2 r3
                case measure => simp [intOf]; omega
              · have h40 : z % 4 = 0 := by omega
                have HKA : Hid (keepAt keep q % 4 = 0) := Lib.hid (by rw [HKZ.out]; exact h40)
                have hba : bits BinOp.and IntKind.i64 z 1 = 0 := (and_1 z).trans (by omega)
                have hbb : bits BinOp.and IntKind.i64 z 3 = 0 := (and_3 z).trans h40
                clear hodd h42 h40
                go_wp2_with
                  (refine wpList_load_mid rfl 117 (.tmp 21) rfl gw (q * 66) rfl (wrRow x) _ HRG.out Tryd.underlying117 rfl (by rw [wrRow_len _ HX64.out]; kernel_rfl) ?_
                   go_wp2_with
                     (refine wpList_store_all rfl 117 (.tmp 6) (.tmp 22) rfl wr.heap.size 117 Tryd.zeroCells117.toList (wrRow x) rfl rfl (Blk.new wr _ _) (by rw [wrRow_len _ HX64.out]; kernel_rfl) (by rw [wrRow_len _ HX64.out]; kernel_rfl) (wrRow_one _) ?_
                      intro w3 hb3 hg3 hz3
                      have e0 := (hb3.cell 0).trans (show _ = some (.int .i64 (x.dev : Int)) from rfl)
                      have HX3 := Lib.hid hb3
                      have HW3 : Hid (Below wr.heap.size wr w3) := Lib.hid ((below_al' (.cells Tryd.zeroCells117 117)).grown hg3 (by simp) (fun q hq => by injection hq with hq; omega))
                      obtain ⟨f2, fe, fd, fk, fm, ft, fi⟩ := HFACT.out w3 HW3.out
                      have FE := Lib.hid fe
                      have FD := Lib.hid fd
                      have FK := Lib.hid fk
                      have FM := Lib.hid fm
                      have FI := Lib.hid fi
                      obtain ⟨vE, hlk⟩ := (show EndMap w3.drew w.heap.size (p.bootAt keep q).2 from fe).run_lookup (j := x.dev) (by omega)
                      rw [hc] at hlk
                      rw [HTT.out] at ft
                      have fz := HCZ.out w3 fi
                      clear hb3 hg3 hz3 fe fd fk fm fi))
                refine Ord.region_ord [] [0, 1, 2, 3, 4, 5, 6, 7, 8, 9] (by kernel_rfl) (by kernel_rfl) (by kernel_rfl) (by kernel_rfl) (Ord.ord_all [_, _, _, _, _, _, _, _, _, _] rfl (by kernel_rfl) ?_)
                go_wp2_with fail
                refine Ord.nx_end ?_
                go_wp2_with
                  (refine wpList_put_end rfl (.tmp 75) (.tmp 77) (.tmp 78) rfl w.heap.size (p.bootAt keep q).2 x.dev q rfl rfl rfl (show EndMap w3.drew _ _ from FE.out) (by omega) (by omega) (by have := HEL.out; omega) ?_
                   intro w5 he5 hg5
                   have HE5 := Lib.hid he5
                   have HG5 := Lib.hid hg5
                   clear he5 hg5)
                go_roundw
                case rel =>
                  obtain ⟨r1, r2, r3⟩ := end_step HFm.out (show EndMap w3.drew _ _ from FE.out) HG5.out FD.out FK.out FM.out.drew
                  exact BootR.mk_ hlt (HNX.out.trans (bs_tape hc HD.out HTT.out HKA.out)) HE5.out r1 r2 r3
                case measure => simp [intOf]; omega
          | false =>
            have HTT := Lib.hid htt
            clear htt
            by_cases hodd : z % 2 = 1
            · have HKA : Hid (keepAt keep q % 2 = 1) := Lib.hid (by rw [HKZ.out]; exact hodd)
              have hba : bits BinOp.and IntKind.i64 z 1 = 1 := (and_1 z).trans hodd
              have HY64 := HX64
              clear hodd
              go_wp2_with
                (refine wpList_load_mid rfl 117 (.tmp 21) rfl gw (q * 66) rfl (wrRow x) _ HRG.out Tryd.underlying117 rfl (by rw [wrRow_len _ HX64.out]; kernel_rfl) ?_
                 go_wp2_with
                   (refine wpList_store_all rfl 117 (.tmp 6) (.tmp 22) rfl wr.heap.size 117 Tryd.zeroCells117.toList (wrRow x) rfl rfl (Blk.new wr _ _) (by rw [wrRow_len _ HX64.out]; kernel_rfl) (by rw [wrRow_len _ HX64.out]; kernel_rfl) (wrRow_one _) ?_
                    intro w3 hb3 hg3 hz3
                    have e0 := (hb3.cell 0).trans (show _ = some (.int .i64 (x.dev : Int)) from rfl)
                    have HX3 := Lib.hid hb3
                    have HW3 : Hid (Below wr.heap.size wr w3) := Lib.hid ((below_al' (.cells Tryd.zeroCells117 117)).grown hg3 (by simp) (fun q hq => by injection hq with hq; omega))
                    obtain ⟨f2, fe, fd, fk, fm, ft, fi⟩ := HFACT.out w3 HW3.out
                    have FE := Lib.hid fe
                    have FD := Lib.hid fd
                    have FK := Lib.hid fk
                    have FM := Lib.hid fm
                    have FI := Lib.hid fi
                    obtain ⟨vE, hlk⟩ := (show EndMap w3.drew w.heap.size (p.bootAt keep q).2 from fe).run_lookup (j := x.dev) (by omega)
                    rw [hc] at hlk
                    rw [HTT.out] at ft
                    have fz := HCZ.out w3 fi
                    clear hb3 hg3 hz3 fe fd fk fm fi))
              refine Ord.region_ord [] [0, 1, 2, 3, 4, 5, 6, 7, 8, 9] (by kernel_rfl) (by kernel_rfl) (by kernel_rfl) (by kernel_rfl) (Ord.ord_all [_, _, _, _, _, _, _, _, _, _] rfl (by kernel_rfl) ?_)
              go_wp2_with fail
              refine Ord.nx_end ?_
              go_wp2_with
                (refine wpList_load_mid rfl 117 (.tmp 6) rfl wr.heap.size 0 rfl (wrRow x) _ (blk_range HX3.out 0 _ (fun j v hv => by rw [Nat.zero_add]; exact hv)) Tryd.underlying117 rfl (by rw [wrRow_len _ HY64.out]; kernel_rfl) ?_)
              refine (settle_any (w := w3.drew) f2 (show DevsAt w3.drew F _ _ _ from FD.out) x HD.out HY64.out (show x.place < 4096 by have := HPL.out; have := HMX.out; omega) HAT.out HM4.out).mono ?_
              rintro e w4 ⟨rfl, fd4, fk4, fm4⟩
              have e4 := ((fk4.blk (show Blk w3.drew wr.heap.size 117 (wrRow x).toArray from HX3.out) (by decide)).cell 0).trans (show _ = some (.int .i64 (x.dev : Int)) from rfl)
              have FD4 := Lib.hid fd4
              have FK4 : Hid (CellsKept w w4) := Lib.hid (FK.out.trans fk4)
              have FM4 : Hid (Mods w.heap.size F w w4) := Lib.hid (FM.out.drew.trans (fm4.mono (FM.out.drew.size) fun _ _ h => h))
              have FE4 : Hid (EndMap w4 w.heap.size (p.bootAt keep q).2) := Lib.hid ((show EndMap w3.drew _ _ from FE.out).heap (fm4.keep _ FE.out.lt HFm.out))
              clear fd4 fk4 fm4
              go_wp2_with fail
              go_roundw
              case rel => exact BootR.mk_ hlt (HNX.out.trans (bs_odd hc HKA.out)) FE4.out FD4.out FK4.out FM4.out
              case measure => simp [intOf]; omega
            · have HKA : Hid (keepAt keep q % 2 = 0) := Lib.hid (by rw [HKZ.out]; omega)
              have hba : bits BinOp.and IntKind.i64 z 1 = 0 := (and_1 z).trans (by omega)
              clear hodd
              go_wp2_with
                (refine wpList_load_mid rfl 117 (.tmp 21) rfl gw (q * 66) rfl (wrRow x) _ HRG.out Tryd.underlying117 rfl (by rw [wrRow_len _ HX64.out]; kernel_rfl) ?_
                 go_wp2_with
                   (refine wpList_store_all rfl 117 (.tmp 6) (.tmp 22) rfl wr.heap.size 117 Tryd.zeroCells117.toList (wrRow x) rfl rfl (Blk.new wr _ _) (by rw [wrRow_len _ HX64.out]; kernel_rfl) (by rw [wrRow_len _ HX64.out]; kernel_rfl) (wrRow_one _) ?_
                    intro w3 hb3 hg3 hz3
                    have e0 := (hb3.cell 0).trans (show _ = some (.int .i64 (x.dev : Int)) from rfl)
                    have HX3 := Lib.hid hb3
                    have HW3 : Hid (Below wr.heap.size wr w3) := Lib.hid ((below_al' (.cells Tryd.zeroCells117 117)).grown hg3 (by simp) (fun q hq => by injection hq with hq; omega))
                    obtain ⟨f2, fe, fd, fk, fm, ft, fi⟩ := HFACT.out w3 HW3.out
                    have FE := Lib.hid fe
                    have FD := Lib.hid fd
                    have FK := Lib.hid fk
                    have FM := Lib.hid fm
                    have FI := Lib.hid fi
                    obtain ⟨vE, hlk⟩ := (show EndMap w3.drew w.heap.size (p.bootAt keep q).2 from fe).run_lookup (j := x.dev) (by omega)
                    rw [hc] at hlk
                    rw [HTT.out] at ft
                    have fz := HCZ.out w3 fi
                    clear hb3 hg3 hz3 fe fd fk fm fi))
              refine Ord.region_ord [] [0, 1, 2, 3, 4, 5, 6, 7, 8, 9] (by kernel_rfl) (by kernel_rfl) (by kernel_rfl) (by kernel_rfl) (Ord.ord_all [_, _, _, _, _, _, _, _, _, _] rfl (by kernel_rfl) ?_)
              go_wp2_with fail
              refine Ord.nx_end ?_
              go_wp2_with fail
              go_roundw
              case rel => exact BootR.mk_ (wr := w3.drew) hlt (HNX.out.trans (bs_disk hc HD.out HTT.out HKA.out)) FE.out FD.out FK.out FM.out.drew
              case measure => simp [intOf]; omega
    · obtain rfl : q = p.waits.length := by omega
      have hp2 := ((HKE.out.blk HB.out.blk (by decide)).cell 2).trans (show _ = some (.slice (some ⟨g, 0, none⟩) p.devs.length c1) from rfl)
      have HSZ : Hid (BootZ w F (.slice (some ⟨g, 0, none⟩) p.devs.length c1) p keep (.int .i64 0) wr) := Lib.hid ⟨0, Nat.zero_le _, rfl, by simpa using HDV.out, HKE.out, HMO.out⟩
      go_wp2_with fail
      clear hp2
      go_loopw [85] (fun iv wr => BootZ w F (.slice (some ⟨g, 0, none⟩) p.devs.length c1) p keep iv wr) (fun iv _ => p.devs.length - (intOf iv).toNat)
      case atStart => exact HSZ.out
      case round =>
        obtain ⟨q, hq, rfl, hdv, hke, hmo⟩ := hrel
        by_cases hlt : q < p.devs.length
        · have hlen := (HINV.out p.waits.length (Nat.le_refl _)).len
          have hn := hdv.zero (j := q) (wc' := fun i => if i < q + 1 then 0 else wcOf p i) (by rw [hlen]; exact hlt) (by simp) (fun i hi => by
            show (if i < q + 1 then 0 else wcOf p i) = (if i < q then 0 else wcOf p i)
            by_cases h1 : i < q
            · rw [if_pos h1, if_pos (by omega)]
            · rw [if_neg h1, if_neg (by omega)])
          have hz2 := ((hke.blk HB.out.blk (by decide)).cell 2).trans (show _ = some (.slice (some ⟨g, 0, none⟩) p.devs.length c1) from rfl)
          obtain ⟨hFg, cur, hgb⟩ := hdv.blockF (by rw [hlen]; omega)
          obtain ⟨u4, k4⟩ : ∃ u, wr.cell? ⟨g, q * 5 + 4, none⟩ = some u := by
            obtain ⟨m, _, _, _, _, _, _, k4⟩ := hdv.cells (j := q) (List.getElem?_eq_getElem (by rw [hlen]; exact hlt))
            exact ⟨_, k4⟩
          have z4 : wr.frozen? ⟨g, q * 5 + 4, none⟩ = false := by simp [World.frozen?, hgb]
          have HN := Lib.hid hn
          have HKE2 := Lib.hid (hke.trans (CellsKept.set (p := ⟨g, q * 5 + 4, none⟩) hgb (.int .i64 0)))
          have HMO2 := Lib.hid (hmo.setCell (p := ⟨g, q * 5 + 4, none⟩) (.inl hFg) (.int .i64 0))
          have hqi : (q : Int) < (p.devs.length : Int) := by omega
          clear hn hdv hke hmo hlen hgb
          go_wp2_with fail
          go_roundw
          case rel => exact ⟨q + 1, hlt, by simp, HN.out, HKE2.out, HMO2.out⟩
          case measure => simp [intOf]; omega
        · obtain rfl : q = p.devs.length := by omega
          have hzb := hke.blk HB.out.blk (by decide)
          have z3 := (hzb.cell 3).trans (show _ = some (.slice AW p.waits.length cW) from rfl)
          have z4 := (hzb.cell 4).trans (show _ = some (.bool p.off) from rfl)
          have z5 := (hzb.cell 5).trans (show _ = some (.int .i64 p.fuseI) from rfl)
          have y3 := hzb.frozen 3
          have y4 := hzb.frozen 4
          have y5 := hzb.frozen 5
          have HEND2 := Lib.hid (boot_end HB.out hke hdv)
          have HMO2 := Lib.hid (((hmo.setCell (p := ⟨a, 3, none⟩) (.inl HB.out.own) (.slice none 0 0)).setCell (p := ⟨a, 4, none⟩) (.inl HB.out.own) (.bool false)).setCell (p := ⟨a, 5, none⟩) (.inl HB.out.own) (.int .i64 (-1)))
          clear hzb hke hdv hmo
          go_wp2_with fail
          go_end0
          exact ⟨rfl, ⟨D, T, _, _, HEND2.out.mono fun g _ h => HF0.out g h⟩, HMO2.out.mono (Nat.le_refl _) fun g _ h => HF0.out g h⟩
end Go.Proofs.YtloffgoenaomkaaDoor.Pl
