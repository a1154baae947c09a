/- The law's 'shown': the document's examples. -/
import Derived.Test.YtookhagpgkefpaaDoorFold16
import Derived.Lib.SlBytesConst
namespace Go.Proofs.YtookhagpgkefpaaDoor.Pag
open Go Go.RowKit Mem Pl Disk Crc _root_.Go.Proofs.YtookhagpgkefpaaDoor.Frame
theorem openM_fresh (N q : Nat) : openM (virt (List.replicate N zeros) []) q = none := by
  have h : ∀ k, virt (List.replicate N zeros) [] k = zeros := fun k => by
    rw [virt_nil, List.getD_eq_getElem?_getD, List.getElem?_replicate]
    split <;> rfl
  have e : opsM (virt (List.replicate N zeros) []) q 2 = pg0 q := by
    show opStep (opStep (pg0 q) (virt (List.replicate N zeros) [] 0)) (virt (List.replicate N zeros) [] 1) = _
    rw [h, h]
    unfold opStep
    rw [okSup_zeros]
    rfl
  refine openM_root ?_
  rw [e]
  rfl
def bA : List UInt8 := [97]
def bB : List UInt8 := [98]
theorem sh_put1 : putM (pgNew 4) noT bA = ({ pgNew 4 with use := setB no48 0 true }, fun q => if q = 0 then bA else noT q, 0, 0) := by
  have h : ffree (pgNew 4) = some 0 := by decide +kernel
  unfold putM
  rw [if_neg (by decide), h]
  rfl
theorem sh_put2 (T : Nat → List UInt8) : putM { pgNew 4 with use := setB no48 0 true } T bB = ({ pgNew 4 with use := setB (setB no48 0 true) 1 true }, fun q => if q = 1 then bB else T q, 1, 0) := by
  have h : ffree { pgNew 4 with use := setB no48 0 true } = some 1 := by decide +kernel
  unfold putM
  rw [if_neg (by decide), h]
  rfl
def sh2 : PgM := { pgNew 4 with use := setB (setB no48 0 true) 1 true }
theorem sh_room : sh2.room sh2.pages = 2 := by decide +kernel
theorem sh_may : sh2.rootMay 1 = true := by decide +kernel
theorem sh_use : (sh2.commit 1).inUse 0 = true := by decide +kernel
/-- Bytes and what else lies there stay below a law's first block: of no concern. -/
theorem grow_below {B : Nat} {w w' : World} {K : Nat → Prop} (hm : Mods w.heap.size K w w') (hK : ∀ k, K k → B ≤ k ∧ k < w.heap.size) (hB : B ≤ w.heap.size) {W : World} (hW : Below B W w) : Below B W w' :=
  hW.trans (tab_below hm hB fun k hk => (hK k hk).1)
set_option maxRecDepth 100000 in
set_option maxHeartbeats 16000000 in
theorem shown_any (w : World) (ht : TabB w.heap.size w) :
    Calls Tryd.prog 8 #[] w fun e w' => e = .returned (.bool true) ∧ Below w.heap.size w w' := by
  have HT := Lib.hid ht
  have HMD := Lib.hid (made_one (B := w.heap.size) 34 (by omega) (by omega) (Nat.le_refl _) rfl)
  clear ht
  go_enter Tryd.func8, Tryd.ntmps8
  go_wp2_with fail
  refine HMD.out.mono ?_
  rintro e w1 ⟨a, rfl, hp, hb⟩
  have HP := Lib.hid hp
  have HB1 := Lib.hid hb
  have HT1 := Lib.hid (HT.out.below hb (Nat.le_refl _))
  have hon : (pagPM 34).off = false := rfl
  have hfu : (pagPM 34).fuse = none := rfl
  obtain ⟨F, hst, hF⟩ := hp.inner
  have hop := open_on hst hp.disk (by omega) hon (by omega) HT1.out.tab (Nat.lt_of_lt_of_le HT1.out.c hb.size)
  rw [openM_fresh] at hop
  have HOP := Lib.hid hop
  clear hp hb hst hF hop HMD
  go_wp2_with fail
  refine HOP.out.mono ?_
  rintro e w2 ⟨hb, hx⟩
  obtain rfl : e = .returned (.tuple #[.pointer none, .int .i64 4]) := by
    rcases hx with ⟨_, h⟩ | ⟨_, _, h, _⟩
    · exact h
    · cases h
  clear hx
  have HB2 := Lib.hid (HB1.out.trans (hb.mono HB1.out.size))
  have HP2 := Lib.hid (HP.out.below hb)
  have HT2 := Lib.hid (HT1.out.below hb HB1.out.size)
  have HFM := Lib.hid (HP2.out.formatNew HB2.out.size (by omega) hon hfu HT2.out (by omega))
  clear hb HP HT1 HOP hon hfu
  go_wp2_with fail
  refine HFM.out.mono ?_
  rintro e w3 ⟨pm3, H3, rfl, hon3, hfu3, hp3, hi3, hm3⟩
  have HP3 := Lib.hid hp3
  have HI3 := Lib.hid hi3
  have HB3 := Lib.hid (grow_below hm3 HP2.out.lt HB2.out.size HB2.out)
  have HT3 := Lib.hid (HT2.out.mods hm3 (fun k hk => (HP2.out.lt k hk).1) HB2.out.size)
  have HON3 := Lib.hid hon3
  have HFU3 := Lib.hid hfu3
  have HOQ := Lib.hid (hp3.opened hi3 HB3.out.size (by omega) hon3 HT3.out rfl)
  clear hp3 hi3 hm3 hon3 hfu3 HFM
  go_wp2_with fail
  refine HOQ.out.mono ?_
  rintro e w4 ⟨g, rfl, hp4, hi4, hb4⟩
  have HP4 := Lib.hid hp4
  have HI4 : Hid (Inv 34 H3 [] (pgNew 4) noT noT) := Lib.hid hi4
  have HP4 : Hid (Pg1 w.heap.size w4 _ a pm3 _ 0 34 H3 [] g (pgNew 4)) := Lib.hid hp4
  have HB4 := Lib.hid (HB3.out.trans (hb4.mono HB3.out.size))
  have HT4 := Lib.hid (HT3.out.below hb4 HB3.out.size)
  have HRT := Lib.hid (HP4.out.root)
  clear hp4 hi4 hb4 HOQ
  go_wp2_with fail
  refine HRT.out.mono ?_
  rintro e _ ⟨rfl, rfl⟩
  rw [show (pgNew 4).root = -1 from rfl]
  have hcv := fun (w : World) (C : Array Value) (n c : Nat) => Lib.run_convert_bytes_const (P := Tryd.prog) w 38 5 C n c Tryd.underlying38 Tryd.underlying5
  go_wp2_with fail
  have hb5 := below_al' (w := w4) (.cells #[.int .u8 97] 5 (1, 2))
  have HB5 := Lib.hid (HB4.out.trans (hb5.mono HB4.out.size))
  have HP5 := Lib.hid (HP4.out.below hb5)
  have HT5 := Lib.hid (HT4.out.below hb5 HB4.out.size)
  have hput := HP5.out.put HI4.out HB5.out.size (by omega) HON3.out HT5.out (some ⟨w4.heap.size, 0, none⟩) 1 1 bA (BAt.new _ _ _ _ (by rfl)) rfl (by omega)
  rw [sh_put1] at hput
  have HPUT := Lib.hid hput
  clear hput hb5 HP4 HT4 HRT
  refine HPUT.out.mono ?_
  rintro e w6 ⟨pm6, ws6, hm6, ⟨rfl, hon6, hfu6, hp6, hi6⟩ | ⟨rfl, hoff6, hfz, _⟩⟩
  rotate_left
  · exact absurd HFU3.out hfz
  have HON6 := Lib.hid hon6
  have HFU6 := Lib.hid (hfu6 HFU3.out)
  have HP6 := Lib.hid hp6
  have HI6 := Lib.hid hi6
  have HB6 := Lib.hid (grow_below hm6 HP5.out.lt HB5.out.size HB5.out)
  have HT6 := Lib.hid (HT5.out.mods hm6 (fun k hk => (HP5.out.lt k hk).1) HB5.out.size)
  clear hm6 hon6 hfu6 hp6 hi6 HPUT
  go_wp2_with fail
  have hb7 := below_al' (w := w6) (.cells #[.int .u8 98] 5 (1, 2))
  have HB7 := Lib.hid (HB6.out.trans (hb7.mono HB6.out.size))
  have HP7 := Lib.hid (HP6.out.below hb7)
  have HT7 := Lib.hid (HT6.out.below hb7 HB6.out.size)
  have hput := HP7.out.put HI6.out HB7.out.size (by omega) HON6.out HT7.out (some ⟨w6.heap.size, 0, none⟩) 1 1 bB (BAt.new _ _ _ _ (by rfl)) rfl (by omega)
  rw [sh_put2] at hput
  have HPUT := Lib.hid hput
  clear hput hb7 HP6 HT6
  refine HPUT.out.mono ?_
  rintro e w8 ⟨pm8, ws8, hm8, ⟨rfl, hon8, hfu8, hp8, hi8⟩ | ⟨rfl, hoff8, hfz, _⟩⟩
  rotate_left
  · exact absurd HFU6.out hfz
  have HON8 := Lib.hid hon8
  have HFU8 := Lib.hid (hfu8 HFU6.out)
  have HP8 : Hid (Pg1 w.heap.size w8 _ a pm8 _ 0 34 H3 ws8 g sh2) := Lib.hid hp8
  have HI8 : Hid (Inv 34 H3 ws8 sh2 _ noT) := Lib.hid hi8
  have HB8 := Lib.hid (grow_below hm8 HP7.out.lt HB7.out.size HB7.out)
  have HT8 := Lib.hid (HT7.out.mods hm8 (fun k hk => (HP7.out.lt k hk).1) HB7.out.size)
  have hrm := HP8.out.room
  rw [sh_room] at hrm
  have HRM := Lib.hid hrm
  clear hm8 hon8 hfu8 hp8 hi8 hrm HPUT
  go_wp2_with fail
  refine HRM.out.mono ?_
  rintro e _ ⟨rfl, rfl⟩
  have HC := Lib.hid (HP8.out.commit HI8.out HB8.out.size (by omega) HON8.out HT8.out (by show 1 < 3000000000000000000; omega) 1)
  go_wp2_with fail
  refine HC.out.mono ?_
  rintro e w9 ⟨pm9, H9, ws9, hm9, ⟨h, _⟩ | ⟨_, rfl, hon9, hfu9, hp9, hi9⟩ | ⟨_, _, _, hfz, _⟩⟩
  · rw [sh_may] at h; cases h
  rotate_left
  · exact absurd HFU8.out hfz
  have HON9 := Lib.hid hon9
  have HP9 := Lib.hid hp9
  have HI9 := Lib.hid hi9
  have HB9 := Lib.hid (grow_below hm9 HP8.out.lt HB8.out.size HB8.out)
  have HT9 := Lib.hid (HT8.out.mods hm9 (fun k hk => (HP8.out.lt k hk).1) HB8.out.size)
  have hrd := hp9.read hi9 HB9.out.size (by omega) hon9 HT9.out 0
  rw [sh_use] at hrd
  have HRD := Lib.hid hrd
  clear hm9 hon9 hfu9 hp9 hi9 hrd HC HRM
  go_wp2_with fail
  refine HRD.out.mono ?_
  rintro e w10 ⟨A, k, c, rfl, ho, hb⟩
  have hk1 : k = 1 := by have := ho.len; simpa [bA] using this.symm
  subst hk1
  have hts := run_toString (P := Tryd.prog) Pl.byteTy (show Tryd.prog.underlying 9 = some .string from Tryd.underlying9) (w := w10) (bs := bA) c ho.bat rfl
  have HRT := Lib.hid (HP9.out.below hb).root
  have HB10 := Lib.hid (HB9.out.trans (hb.mono HB9.out.size))
  have hbA : (⟨bA.toArray⟩ : ByteArray) = ⟨#[97]⟩ := rfl
  rw [hbA, show bA.length = 1 from rfl] at hts
  clear ho hb HRD hbA
  go_wp2_with fail
  refine HRT.out.mono ?_
  rintro e _ ⟨rfl, rfl⟩
  rw [show (sh2.commit 1).root = 1 from rfl]
  go_wp2_with fail
  go_ret
  exact ⟨rfl, HB10.out⟩
end Go.Proofs.YtookhagpgkefpaaDoor.Pag
