/- The hot disk's 'Append': an object is laid where there is room first. -/
import Derived.Test.YtgcckfaljfkkhaaDoorHotRead
namespace Go.Proofs.YtgcckfaljfkkhaaDoor.Hot
open Go Go.RowKit Mem Pl Disk Crc _root_.Go.Proofs.YtgcckfaljfkkhaaDoor.Frame
/-- A plant and a hot disk on it within a law. -/
structure HotSt (B : Nat) (w : World) (F H : Nat → Prop) (a h : Nat) (pm : PM) (n dev N : Nat) (Hs : List (List UInt8)) (ws : Ws) (segs : List Nat) (used : List Pc) : Prop where
  st : St B w F a pm n
  disk : Disk pm dev N Hs ws
  hot : HotAt w H h a dev segs used
  ok : HotOk segs used
  size : N / 16 = segs.length
  lt : ∀ g, H g → B ≤ g ∧ g < w.heap.size
  apart : ∀ g, F g → ¬ H g
/-- The tables of numbers lie below the law's own. -/
structure Tabs (B : Nat) (w : World) : Prop where
  crc : Tab w
  tz : Tz w
  c1 : 1 < B
  c2 : 0 < B
theorem Tabs.mods {B : Nat} {w w' : World} {F : Nat → Prop} (h : Tabs B w) (hm : Mods w.heap.size F w w') (hF : ∀ g, F g → B ≤ g) (hB : B ≤ w.heap.size) : Tabs B w' :=
  ⟨h.crc.below ((hm.mono hB fun _ _ h => h).below fun k hk hf => by have := hF k hf; omega) h.c1, h.tz.below ((hm.mono hB fun _ _ h => h).below fun k hk hf => by have := hF k hf; omega) h.c2, h.c1, h.c2⟩
theorem Tabs.below {B C : Nat} {w w' : World} (h : Tabs B w) (hb : Below C w w') (hB : B ≤ C) : Tabs B w' := ⟨h.crc.below hb (Nat.lt_of_lt_of_le h.c1 hB), h.tz.below hb (Nat.lt_of_lt_of_le h.c2 hB), h.c1, h.c2⟩
theorem bat_chunk {w : World} {g : Nat} {t : TypeId} {bs : List UInt8} (h : Blk w g t (cellsOf bs)) (o n : Nat) : BAt w (some ⟨g, o, none⟩) ((bs.drop o).take n) :=
  (BAt.of_block (bs := bs.drop o) h o fun k hk => by
    rw [List.length_drop] at hk
    rw [cellsOf_get (by omega)]
    simp [List.getD_eq_getElem?_getD, List.getElem?_drop]).take n
theorem fit_below2 {w wr w2 : World} (hb : Below w.heap.size w wr) (hg : wr.grownBy w2 (some w.heap.size)) : Below w.heap.size w w2 :=
  hb.grown hg hb.size (fun k hk => by injection hk with hk; omega)
theorem fit_row {w w1 w2 : World} {r k : Nat} (hb : Below k w w1) (hg : w1.grownBy w2 (some r)) (h1 : k ≤ r) (h2 : k ≤ w1.heap.size) : Below k w w2 :=
  hb.grown hg h2 (fun j hj => by injection hj with hj; omega)
/-- What is done to other blocks leaves a plant. -/
theorem St.off_ {B : Nat} {w w' : World} {F G : Nat → Prop} {c m : Nat} {q : PM} (hq : St B w G c q m) (hm : Mods w.heap.size F w w') (hd : ∀ g, G g → ¬ F g) : St B w' G c q m :=
  ⟨hq.at_.mods hm fun g hg hG => ⟨hg, hd g hG⟩, hq.ok, fun g hg => ⟨(hq.lt g hg).1, Nat.lt_of_lt_of_le (hq.lt g hg).2 hm.size⟩, hq.steps, hq.waits⟩
theorem St.more {B : Nat} {w : World} {G : Nat → Prop} {c m k : Nat} {q : PM} (hq : St B w G c q m) (h : m ≤ k) : St B w G c q k := ⟨hq.at_, hq.ok, hq.lt, Nat.le_trans hq.steps h, Nat.le_trans hq.waits h⟩
theorem mods_row {w w' : World} {r : Nat} (hg : w.grownBy w' (some r)) : Mods w.heap.size (fun g => g = r) w w' :=
  (Mods.refl w.heap.size (fun g => g = r) w).grown hg (Nat.le_refl _) fun g e => by injection e with e; exact .inl e.symm
theorem app_fail {B : Nat} {w w6 w7 w8 : World} {F H F7 : Nat → Prop} {a h : Nat} {pm pm7 : PM} {n n7 dev N : Nat} {Hs : List (List UInt8)} {ws : Ws} {segs : List Nat} {used : List Pc} {S U : Value} (x : HotSt B w F H a h pm n dev N Hs [] segs used)
    (hst7 : St B w7 F7 a pm7 n7) (hn7 : n7 ≤ n + 17) (hF7 : ∀ g, F7 g → F g ∨ w6.heap.size ≤ g) (h6 : w.heap.size < w6.heap.size) (hw6 : Below w.heap.size w w6) (hmo : Mods w6.heap.size F w6 w7)
    (hx7 : HotB w7 H h a dev segs used S U) (hd7 : Disk pm7 dev N Hs ws) (hg8 : w7.grownBy w8 (some w.heap.size)) :
    HotSt B w8 F7 H a h pm7 (n + 17) dev N Hs ws segs used ∧ Mods w.heap.size (fun g => F g ∨ H g) w w8 ∧ (∀ g, F7 g → F g ∨ w.heap.size ≤ g) := by
  have hm := mods_row hg8
  have hne : ∀ g, F7 g → ¬ g = w.heap.size := fun g hg e => by
    rcases hF7 g hg with hf | hf
    · have := (x.st.lt g hf).2; omega
    · omega
  have hs67 := hmo.size
  have hs78 := hm.size
  refine ⟨⟨St.more (St.off_ hst7 hm hne) hn7, hd7, (hx7.mods hm fun g hg hH => ⟨hg, fun e => by have := (x.lt g hH).2; omega⟩).at_, x.ok, x.size, fun g hg => ⟨(x.lt g hg).1, by have := (x.lt g hg).2; omega⟩, fun g hf hH => ?_⟩, ?_, fun g hg => ?_⟩
  · rcases hF7 g hf with hf | hf
    · exact x.apart g hf hH
    · have := (x.lt g hH).2; omega
  · exact ((Mods.of_below hw6).trans (hmo.mono hw6.size fun g _ hf => .inl hf)).trans (hm.mono (Nat.le_trans hw6.size hs67) fun g hg e => by omega)
  · rcases hF7 g hg with hf | hf
    · exact .inl hf
    · exact .inr (by omega)
theorem app_done {B : Nat} {w w6 w7 w8 w9 : World} {F H F7 H8 : Nat → Prop} {a h : Nat} {pm pm7 : PM} {n n7 dev N : Nat} {Hs Hs7 : List (List UInt8)} {segs segs' : List Nat} {used vsed : List Pc} (x : HotSt B w F H a h pm n dev N Hs [] segs used) (hB : B ≤ w.heap.size)
    (hst7 : St B w7 F7 a pm7 n7) (hn7 : n7 ≤ n + 17) (hF7 : ∀ g, F7 g → F g ∨ w6.heap.size ≤ g) (hF7' : ∀ g, F7 g → g < w7.heap.size) (h6 : w.heap.size < w6.heap.size) (hw6 : Below w.heap.size w w6) (hmo : Mods w6.heap.size F w6 w7)
    (hd7 : Disk pm7 dev N Hs7 []) (hm8 : Mods w7.heap.size H w7 w8) (hH8 : ∀ g, H8 g → H g ∨ w7.heap.size ≤ g ∧ g < w8.heap.size) (hx8 : HotAt w8 H8 h a dev segs' vsed) (hok : HotOk segs' vsed) (hsl : segs'.length = segs.length) (hg9 : w8.grownBy w9 (some w.heap.size)) :
    HotSt B w9 F7 H8 a h pm7 (n + 17) dev N Hs7 [] segs' vsed ∧ Mods w.heap.size (fun g => F g ∨ H g) w w9 ∧ (∀ g, F7 g → F g ∨ w.heap.size ≤ g) ∧ (∀ g, H8 g → H g ∨ w.heap.size ≤ g) := by
  have hm := mods_row hg9
  have hs67 := hmo.size
  have hs78 := hm8.size
  have hs89 := hm.size
  have hap : ∀ g, F7 g → ¬ H g := fun g hf hH => by
    rcases hF7 g hf with hf | hf
    · exact x.apart g hf hH
    · have := (x.lt g hH).2; omega
  have hst8 := St.off_ hst7 hm8 hap
  refine ⟨⟨St.more (St.off_ hst8 hm fun g hg e => ?_) hn7, hd7, ?_, hok, by rw [hsl]; exact x.size, fun g hg => ?_, fun g hf hH => ?_⟩, ?_, fun g hg => ?_, fun g hg => ?_⟩
  · rcases hF7 g hg with hf | hf
    · have := (x.st.lt g hf).2; omega
    · omega
  · exact hx8.mods hm fun g hg hH => ⟨hg, fun e => by
      rcases hH8 g hH with h' | h'
      · have := (x.lt g h').2; omega
      · omega⟩
  · rcases hH8 g hg with h' | h'
    · exact ⟨(x.lt g h').1, by have := (x.lt g h').2; omega⟩
    · exact ⟨by omega, by omega⟩
  · rcases hH8 g hH with h' | h'
    · exact hap g hf h'
    · have := hF7' g hf; omega
  · refine (((Mods.of_below hw6).trans (hmo.mono hw6.size fun g _ hf => .inl hf)).trans (hm8.mono (Nat.le_trans hw6.size hs67) fun g _ hf => .inr hf)).trans (hm.mono (Nat.le_trans hw6.size (Nat.le_trans hs67 hs78)) fun g hg e => by omega)
  · rcases hF7 g hg with hf | hf
    · exact .inl hf
    · exact .inr (by omega)
  · rcases hH8 g hg with h' | h'
    · exact .inl h'
    · exact .inr (by omega)
/-- The loop that writes. -/
def AppR (B : Nat) (_w wl : World) (F : Nat → Prop) (_h a dev : Nat) (pm : PM) (n N : Nat) (Hs : List (List UInt8)) (at_ m : Nat) (t : List UInt8) (iv : Value) (wr : World) : Prop :=
  ∃ (i : Nat) (F' : Nat → Prop) (pm' : PM), i ≤ m ∧ iv = .int .i64 (i : Int) ∧ St B wr F' a pm' (n + i) ∧ Disk pm' dev N Hs (wsM at_ t i) ∧ pm'.off = false ∧ (pm.fuse = none → pm'.fuse = none) ∧
    (∀ g, F' g → F g ∨ wl.heap.size ≤ g) ∧ Mods wl.heap.size F wl wr
/-- No place. -/
def noP : Value := .agg #[.int .i64 0, .int .i64 0, .int .i64 0, .bool false]
/-- What 'Append' leaves. -/
def AppP (B : Nat) (w : World) (F H : Nat → Prop) (a h : Nat) (pm : PM) (n dev N : Nat) (Hs : List (List UInt8)) (segs : List Nat) (used : List Pc) (bs : List UInt8) (e : Ending) (w' : World) : Prop :=
  (512 < bs.length ∧ e = .returned (.tuple #[noP, .int .i64 5]) ∧ Below w.heap.size w w') ∨
  (bs.length ≤ 512 ∧ FitIs used segs.length (costM bs.length) none ∧ e = .returned (.tuple #[noP, .int .i64 3]) ∧ Below w.heap.size w w') ∨
  ∃ at_, bs.length ≤ 512 ∧ FitIs used segs.length (costM bs.length) (some at_) ∧ ∃ (F' H' : Nat → Prop) (pm' : PM), (∀ g, F' g → F g ∨ w.heap.size ≤ g) ∧ (∀ g, H' g → H g ∨ w.heap.size ≤ g) ∧ Mods w.heap.size (fun g => F g ∨ H g) w w' ∧
    ((e = .returned (.tuple #[.agg #[.int .i64 (dev : Int), .int .i64 (at_ : Int), .int .i64 (costM bs.length : Int), .bool false], .int .i64 0]) ∧ pm'.off = false ∧ (pm.fuse = none → pm'.fuse = none) ∧
        ∃ segs', segs'.length = segs.length ∧ HotSt B w' F' H' a h pm' (n + 17) dev N (setAll (wsM at_ (textM bs) (costM bs.length)) Hs) [] segs' (used ++ [(at_, costM bs.length)])) ∨
     (e = .returned (.tuple #[noP, .int .i64 2]) ∧ pm'.off = true ∧ pm.fuse ≠ none ∧ ∃ i, i ≤ costM bs.length ∧ HotSt B w' F' H' a h pm' (n + 17) dev N Hs (wsM at_ (textM bs) i) segs used))
set_option maxRecDepth 100000 in
set_option maxHeartbeats 8000000 in
theorem happend_any {B : Nat} {w : World} {F H : Nat → Prop} {a h : Nat} {pm : PM} {n dev N : Nat} {Hs : List (List UInt8)} {segs : List Nat} {used : List Pc} (x : HotSt B w F H a h pm n dev N Hs [] segs used) (hB : B ≤ w.heap.size) (hn : n ≤ 900000000) (hon : pm.off = false) (hul : used.length ≤ 1000000000) (ht : Tabs B w)
    (A : Option Addr) (L cap : Nat) (bs : List UInt8) (hb : BAt w A bs) (hl : bs.length = L) (hLm : L ≤ 9223372036854775807) :
    Calls Tryd.prog 15 #[.pointer (some ⟨h, 0, none⟩), .slice A L cap] w (AppP B w F H a h pm n dev N Hs segs used bs) := by
  have HX := Lib.hid x
  have HT := Lib.hid ht
  have HB := Lib.hid hb
  have HL := Lib.hid hl
  have HON := Lib.hid hon
  have hlth : h < w.heap.size := by obtain ⟨_, _, y⟩ := x.hot; exact y.blk.lt
  clear x ht hb hl hon
  have hb1 : Below w.heap.size w (w.alloc (.cells #[.int .i64 0, .int .i64 0, .int .i64 0, .bool false] 36)) := below_al' _
  have HB1 := Lib.hid hb1
  have HK1 := Lib.hid (Blk.new w 36 #[.int .i64 0, .int .i64 0, .int .i64 0, .bool false])
  clear hb1
  by_cases h512 : 512 < L
  · have hLI : (512 : Int) < (L : Int) := by omega
    go_enter Tryd.func15, Tryd.ntmps15
    go_wp2_with
      (refine wpList_store_all rfl 36 (.tmp 4) (.tmp 15) rfl w.heap.size 36 [.int .i64 0, .int .i64 0, .int .i64 0, .bool false] [.int .i64 0, .int .i64 0, .int .i64 0, .bool false] rfl rfl HK1.out rfl (by kernel_rfl) pc0_one ?_
       intro w2 hb2 hg2 hz2
       have HK2 := Lib.hid hb2
       have HG2 := Lib.hid hg2
       clear hb2 hg2 hz2)
    have hld := load_pc HK2.out
    refine bodyPost_ret (v := .tuple #[.agg #[.int .i64 0, .int .i64 0, .int .i64 0, .bool false], .int .i64 5]) ?_ rfl (.inl ⟨by rw [HL.out]; exact h512, rfl, fit_below2 HB1.out HG2.out⟩)
    simp [results, Tryd.results15, asAddr, hld]
  · have hLI : ¬ (512 : Int) < (L : Int) := by omega
    have hcl := cost_le (show L ≤ 512 by omega)
    obtain ⟨S, U, hx⟩ := HX.out.hot
    have HXB := Lib.hid (hx.below HB1.out)
    have HT1 := Lib.hid (HT.out.below HB1.out hB)
    have HCO := Lib.hid (fun w' : World => cost_any w' L (by omega))
    have hBw1 : B ≤ (w.alloc (.cells #[.int .i64 0, .int .i64 0, .int .i64 0, .bool false] 36)).heap.size := Nat.le_trans hB HB1.out.size
    have HFI := Lib.hid (fit_any HXB.out HX.out.ok.sok HX.out.ok.few (costM L) hcl.1 (by omega) HT1.out.tz (Nat.lt_of_lt_of_le HT1.out.c2 hBw1))
    clear hx
    go_enter Tryd.func15, Tryd.ntmps15
    go_wp2_with fail
    refine (HCO.out _).mono ?_
    rintro e _ ⟨rfl, rfl⟩
    go_wp2_with fail
    refine HFI.out.mono ?_
    rintro e w2 ⟨r, hr, rfl, hb2⟩
    have HR := Lib.hid hr
    have HB2 := Lib.hid (HB1.out.trans (hb2.mono HB1.out.size))
    have HK2 := Lib.hid (HK1.out.below_ hb2)
    have HX2 := Lib.hid (HXB.out.below hb2)
    have HT2 := Lib.hid (HT1.out.below hb2 hBw1)
    have hlt2 : w.heap.size < w2.heap.size := HK2.out.lt
    clear hr hb2 HXB HT1 HFI hBw1
    cases r with
    | none =>
      unfold fitV
      have ha3 : Below w2.heap.size w2 (w2.alloc (.cells #[.int .i64 0, .int .i64 0, .int .i64 0, .bool false] 36)) := below_al' _
      have HA3 := Lib.hid ha3
      clear ha3
      go_wp2_with
        (refine wpList_store_all rfl 36 (.tmp 4) (.tmp 26) rfl w.heap.size 36 [.int .i64 0, .int .i64 0, .int .i64 0, .bool false] [.int .i64 0, .int .i64 0, .int .i64 0, .bool false] rfl rfl (HK2.out.below_ HA3.out) rfl (by kernel_rfl) pc0_one ?_
         intro w3 hb3 hg3 hz3
         have HK3 := Lib.hid hb3
         have HG3 := Lib.hid hg3
         clear hb3 hg3 hz3)
      have hld := load_pc HK3.out
      refine bodyPost_ret (v := .tuple #[.agg #[.int .i64 0, .int .i64 0, .int .i64 0, .bool false], .int .i64 3]) ?_ rfl (.inr (.inl ⟨by rw [HL.out]; omega, by rw [HL.out]; exact HR.out, rfl, fit_below2 (HB2.out.trans (HA3.out.mono HB2.out.size)) HG3.out⟩))
      simp [results, Tryd.results15, asAddr, hld]
    | some at_ =>
      unfold fitV
      obtain ⟨m, hm⟩ : ∃ m, costM L = m := ⟨_, rfl⟩
      rw [hm] at hcl HR ⊢
      have HM := Lib.hid hm
      have hmk := fun W : World => run_makeCap Pl.byteTy (64 * m) (64 * m) ((m : Int) * 64) ((m : Int) * 64) (by omega) (by omega) (by omega) (by omega) W
      have ha3 : Below w2.heap.size w2 (w2.alloc (.cells #[.int .i64 (dev : Int), .int .i64 (at_ : Int), .int .i64 (m : Int), .bool false] 36)) := below_al' _
      have hk3 := Blk.new w2 36 #[.int .i64 (dev : Int), .int .i64 (at_ : Int), .int .i64 (m : Int), .bool false]
      have hs3 : (w2.alloc (.cells #[.int .i64 (dev : Int), .int .i64 (at_ : Int), .int .i64 (m : Int), .bool false] 36)).heap.size = w2.heap.size + 1 := by simp
      clear hm
      go_wp2_with fail
      generalize w2.alloc (.cells #[.int .i64 (dev : Int), .int .i64 (at_ : Int), .int .i64 (m : Int), .bool false] 36) = w3 at *
      have ha4 : Below w3.heap.size w3 (w3.alloc (.cells (cellsOf (List.replicate (64 * m) 0)) 5)) := below_al' _
      have hk4 := Blk.new w3 5 (cellsOf (List.replicate (64 * m) 0))
      have hs4 : (w3.alloc (.cells (cellsOf (List.replicate (64 * m) 0)) 5)).heap.size = w3.heap.size + 1 := by simp
      rw [hs3] at hk4 hs4
      have HB3 := Lib.hid (HB2.out.trans (ha3.mono HB2.out.size))
      have HB4 := Lib.hid (HB3.out.trans (ha4.mono HB3.out.size))
      have HKX := Lib.hid (hk3.below_ ha4)
      have HKR := Lib.hid ((HK2.out.below_ ha3).below_ ha4)
      have HKT := Lib.hid hk4
      have HX4 := Lib.hid ((HX2.out.below ha3).below ha4)
      have hB2 : B ≤ w2.heap.size := Nat.le_trans hB HB2.out.size
      have HT4 := Lib.hid ((HT2.out.below ha3 hB2).below ha4 (by rw [hs3]; omega))
      have HBA := Lib.hid (HB.out.below HB4.out)
      clear ha3 hk3 ha4 hk4 HX2 HK2 HT2 HB3
      generalize w3.alloc (.cells (cellsOf (List.replicate (64 * m) 0)) 5) = w4 at *
      have HPK := Lib.hid (pack_any 1 A bs L cap w4 HL.out (by omega) HBA.out HT4.out.crc (Nat.lt_of_lt_of_le HT4.out.c1 (by rw [hs4]; omega)))
      rw [show V8 1 = 1 from rfl] at HPK
      refine HPK.out.mono ?_
      rintro e w5 ⟨A5, N5, c5, rfl, ho5, hb5⟩
      have hn5 : N5 = L + 9 := by have := ho5.len; rw [pack_length, HL.out] at this; omega
      subst hn5
      have HO5 := Lib.hid ho5
      have HB5 := Lib.hid (HB4.out.trans (hb5.mono HB4.out.size))
      have HX5 := Lib.hid (HX4.out.below hb5)
      have HKX5 := Lib.hid (HKX.out.below_ hb5)
      have HKR5 := Lib.hid (HKR.out.below_ hb5)
      have HKT5 := Lib.hid (HKT.out.below_ hb5)
      have hs5 : w2.heap.size + 2 ≤ w5.heap.size := by have := hb5.size; omega
      have hcr := cost_room L
      rw [HM.out] at hcr
      clear ho5 hb5 HX4 HKX HKR HKT HPK HBA HT4 hmk
      have HNIL : Hid (A5 = none → c5 = 0) := Lib.hid (fun h0 => by
        rcases HO5.out.form with ⟨_, h1, _⟩ | ⟨g, h1, _⟩
        · omega
        · rw [h0] at h1; cases h1)
      go_wp2_with
        (refine wpList_copy_bytes rfl (.tmp 31) (.tmp 33) _ rfl _ Pl.byteTy (w2.heap.size + 1) 0 (64 * m) (64 * m) _ (List.replicate (64 * m) 0) rfl HKT5.out A5 (L + 9) c5 (pack 1 bs) rfl HO5.out.bat HO5.out.len (L + 9) (Nat.min_eq_left hcr).symm (by rw [List.length_replicate]; omega) HNIL.out ?_
         intro w6 hk6 hg6 hz6
         have HK6' := Lib.hid hk6
         have HG6 := Lib.hid hg6
         have HZ6 := Lib.hid hz6
         have hkx6 := HKX5.out.grown hg6 (by intro e; injection e with e; omega)
         have HKX6 := Lib.hid hkx6
         have k2 := (hkx6.cell 2).trans (show _ = some (.int .i64 (m : Int)) from rfl)
         clear hk6 hg6 hz6 hkx6)
      have HKT6 : Hid (Blk w6 (w2.heap.size + 1) 5 (cellsOf (textM bs))) := Lib.hid (by
        have := HK6'.out
        have e : List.take 0 (List.replicate (64 * m) (0 : UInt8)) ++ List.take (L + 9) (pack 1 bs) ++ List.drop (0 + (L + 9)) (List.replicate (64 * m) 0) = textM bs := by
          unfold textM
          rw [List.take_zero, List.nil_append, List.take_of_length_le (by rw [pack_length, HL.out]; omega), List.drop_replicate, HL.out, HM.out, Nat.zero_add]
        rw [e] at this
        exact this)
      have HKR6 := Lib.hid (HKR5.out.grown HG6.out (by intro e; injection e with e; omega))
      have HW6 := Lib.hid (fit_row HB5.out HG6.out (by omega) HB5.out.size)
      have HX6 := Lib.hid (HX5.out.mods (G := fun g => g = w2.heap.size + 1) ((Mods.refl w5.heap.size (fun g => g = w2.heap.size + 1) w5).grown HG6.out (Nat.le_refl _) (fun g e => by injection e with e; exact .inl e.symm)) (fun g hg hH => ⟨hg, fun e => by have := (HX.out.lt g hH).2; omega⟩))
      have HST6 := Lib.hid (HX.out.st.below HW6.out)
      have hs6 : w2.heap.size + 2 ≤ w6.heap.size := by rw [HZ6.out]; exact hs5
      clear HX5 HKX5 HKR5 HKT5 HO5 HB5 HB4 HK6' HG6 HNIL hs4 hs5 HZ6
      obtain ⟨hok0, hfree⟩ := HR.out.1
      have hok1 := hok0.2.2.1
      have hok2 := hok0.2.2.2
      have hat : at_ < 1000000000 := by have := HX.out.ok.few; simp only at hok1; omega
      have hatN : at_ + m ≤ N := by have := HX.out.size; simp only at hok1 hok2; omega
      have HTL : Hid ((textM bs).length = 64 * m) := Lib.hid (by rw [textM_len, HL.out, HM.out])
      have HOK0 := Lib.hid hok0
      have HFREE := Lib.hid hfree
      clear hok0 hfree hok1 hok2
      go_wp2_with fail
      go_loopw [37] (fun iv wr => AppR B w w6 F h a dev pm n N Hs at_ m (textM bs) iv wr) (fun iv _ => m - (intOf iv).toNat)
      case atStart => exact ⟨0, F, pm, by omega, rfl, HST6.out, HX.out.disk, HON.out, fun h => h, fun g hg => .inl hg, Mods.refl _ _ _⟩
      case round =>
        obtain ⟨i, F', pm', hi, rfl, hst, hdk, hon, hfu, hF', hmo⟩ := hrel
        have HSTR := Lib.hid hst
        have HDK := Lib.hid hdk
        have HONR := Lib.hid hon
        have HFU := Lib.hid hfu
        have HF' := Lib.hid hF'
        have HMO := Lib.hid hmo
        have hFlt : ∀ g, F g → g < w.heap.size := fun g hg => (HX.out.st.lt g hg).2
        have HXR := Lib.hid (HX6.out.mods hmo fun g hg hH => ⟨hg, fun hF => HX.out.apart g hF hH⟩)
        have HKXR := Lib.hid (HKX6.out.mods hmo HKX6.out.lt fun hF => by have := hFlt _ hF; omega)
        have HKTR := Lib.hid (HKT6.out.mods hmo HKT6.out.lt fun hF => by have := hFlt _ hF; omega)
        have HKRR := Lib.hid (HKR6.out.mods hmo HKR6.out.lt fun hF => by have := hFlt _ hF; omega)
        have hszr : w6.heap.size ≤ wr.heap.size := hmo.size
        have hltr := HKXR.out.lt
        clear hst hdk hon hfu hF' hmo k2 hFlt
        by_cases hlt : i < m
        · have hiI : (i : Int) < (m : Int) := by omega
          have c0 := HXR.out.c0
          have c1 := HXR.out.c1
          have k1 := (HKXR.out.cell 1).trans (show _ = some (.int .i64 (at_ : Int)) from rfl)
          have hwa : IntKind.i64.wrap ((at_ : Int) + (i : Int)) = (at_ : Int) + (i : Int) := IntWalk.i64_in _ (by omega)
          have hwb : IntKind.i64.wrap ((i : Int) * 64) = (i : Int) * 64 := IntWalk.i64_in _ (by omega)
          have hwc : IntKind.i64.wrap ((i : Int) + 1) = (i : Int) + 1 := IntWalk.i64_in _ (by omega)
          have hwd : IntKind.i64.wrap (((i : Int) + 1) * 64) = ((i : Int) + 1) * 64 := IntWalk.i64_in _ (by omega)
          have HCL := Lib.hid (chunk_len HTL.out hlt)
          have hszr0 : w2.heap.size ≤ wr.drew.heap.size := by show w2.heap.size ≤ wr.heap.size; omega
          have hBw := hB2
          go_wp2_with fail
          refine Ord.region_ordM [] [11, 14, 16, 17] [0, 1, 2, 3, 4, 5, 6, 7, 8, 9, 10, 12, 13, 15, 11, 14, 16, 17, 18, 19, 20] (by kernel_rfl) (by kernel_rfl) (by kernel_rfl) (by kernel_rfl) (Ord.ord_run [0, 1, 2, 3, 4, 5, 6, 7, 8, 9, 10, 12, 13, 15] [_, _, _, _, _, _, _, _, _, _, _, _, _, _] rfl (by kernel_rfl) ?_)
          go_wp2_with fail
          refine Ord.nx_ord (Ord.ord_pure (.int .i64 ((at_ : Int) + (i : Int))) rfl (by kernel_rfl) rfl (fun w' => by first | (go_simp; done) | (go_simp; exact hwa)) ?_)
          simp only [Act.put, List.setIfInBounds_toArray]
          refine Ord.ord_pure (.int .i64 ((i : Int) * 64)) rfl (by kernel_rfl) rfl (fun w' => by first | (go_simp; done) | (go_simp; exact hwb)) ?_
          simp only [Act.put]
          refine Ord.ord_pure (.int .i64 ((i : Int) + 1)) rfl (by kernel_rfl) rfl (fun w' => by first | (go_simp; done) | (go_simp; exact hwc)) ?_
          simp only [Act.put]
          refine Ord.ord_pure (.int .i64 (((i : Int) + 1) * 64)) rfl (by kernel_rfl) rfl (fun w' => by first | (go_simp; done) | (go_simp; exact hwd)) ?_
          simp only [Act.put]
          refine Ord.ord_all [_, _, _] rfl (by kernel_rfl) ?_
          have hs1 : (i : Int) * 64 ≤ ((i : Int) + 1) * 64 := by omega
          have hs2 : ((i : Int) + 1) * 64 ≤ 64 * (m : Int) := by omega
          have hs3' : (0 : Int) ≤ (i : Int) * 64 := by omega
          have hne : ¬ 64 * m = i * 64 := by omega
          have hpl : at_ + i < N := by omega
          have hwr := (HSTR.out.below (below_drewN (Below.refl _ wr) 1)).write (Nat.le_trans hBw hszr0) (by omega) (dev : Int) ((at_ + i : Nat) : Int) (some ⟨w2.heap.size + 1, i * 64, none⟩) ((i + 1) * 64 - i * 64) (64 * m - i * 64) (chunkM (textM bs) i) (by
            unfold chunkM
            rw [Nat.mul_comm 64 i]
            exact bat_chunk (show Blk wr.drew _ _ _ from HKTR.out) (i * 64) 64) (by rw [HCL.out]; omega)
          have hcs := HDK.out.write_cases HONR.out hpl HCL.out
          rw [show ((at_ + i : Nat) : Int) = (at_ : Int) + (i : Int) by omega] at hwr hcs
          have HWR := Lib.hid hwr
          clear hwr
          go_wp2_with fail
          refine HWR.out.mono ?_
          rintro e w7 ⟨rfl, hst7, hm7⟩
          have HMO7 := Lib.hid (HMO.out.drew.trans (hm7.mono hszr fun g hg hf => (HF'.out g hf).elim id (fun h => by omega)))
          have HF7 : Hid (∀ g, Grow F' wr.drew w7 g → F g ∨ w6.heap.size ≤ g) := Lib.hid (fun g hg => by
            rcases hg with hg | hg
            · exact HF'.out g hg
            · refine .inr ?_
              have h1 : wr.heap.size ≤ g := hg.1
              omega)
          rcases hcs with ⟨he, hd7, hon7, hfu7⟩ | ⟨hfz, he, hd7, hoff7⟩
          · rw [he]
            have HST7 := Lib.hid hst7
            have HD7 := Lib.hid hd7
            have HON7 := Lib.hid hon7
            have HFU7 := Lib.hid hfu7
            rw [wsM_next] at HD7
            clear he hst7 hm7 hd7 hon7 hfu7
            go_wp2_with fail
            refine Ord.nx_end ?_
            go_wp2_with fail
            go_roundw
            case rel => exact ⟨i + 1, _, _, by omega, by simp, HST7.out, HD7.out, HON7.out, fun h => HFU7.out (HFU.out h), HF7.out, HMO7.out⟩
            case measure => simp [intOf]; omega
          · rw [he]
            have HST7 := Lib.hid hst7
            have HD7 := Lib.hid hd7
            have HOFF7 := Lib.hid hoff7
            have HFZ := Lib.hid hfz
            have HXZ := Lib.hid (HX6.out.mods HMO7.out fun g hg hH => ⟨hg, fun hF => HX.out.apart g hF hH⟩)
            have HKRZ := Lib.hid (HKR6.out.mods HMO7.out HKR6.out.lt fun hF => by have := (HX.out.st.lt _ hF).2; omega)
            clear he hst7 hm7 hd7 hoff7 hfz c0 c1 k1
            go_wp2_with fail
            refine Ord.nx_end ?_
            go_wp2_with
              (refine wpList_store_all rfl 36 (.tmp 4) (.tmp 62) rfl w.heap.size 36 [.int .i64 0, .int .i64 0, .int .i64 0, .bool false] [.int .i64 0, .int .i64 0, .int .i64 0, .bool false] rfl rfl HKRZ.out rfl (by kernel_rfl) pc0_one ?_
               intro w8 hb8 hg8 hz8
               have HK8 := Lib.hid hb8
               have HG8 := Lib.hid hg8
               have HZ8 := Lib.hid hz8
               clear hb8 hg8 hz8)
            have hld := load_pc HK8.out
            refine bodyPost_ret (v := .tuple #[.agg #[.int .i64 0, .int .i64 0, .int .i64 0, .bool false], .int .i64 2]) ?_ rfl ?_
            · simp [results, Tryd.results15, asAddr, hld]
            · obtain ⟨h1, h2, h3⟩ := app_fail HX.out HST7.out (by omega) HF7.out (by omega) HW6.out HMO7.out HXZ.out HD7.out HG8.out
              refine .inr (.inr ⟨at_, by rw [HL.out]; omega, by rw [HL.out, HM.out]; exact HR.out, _, H, _, h3, fun g hg => .inl hg, h2, .inr ⟨rfl, HOFF7.out, fun e => ?_, i, by rw [HL.out, HM.out]; omega, h1⟩⟩)
              have := HFU.out e
              rw [HFZ.out] at this
              cases this
        · obtain rfl : i = m := by omega
          have hiI : ¬ (i : Int) < (i : Int) := by omega
          have c0 := HXR.out.c0
          have c1 := HXR.out.c1
          have hszr0 : w2.heap.size ≤ wr.drew.heap.size := by show w2.heap.size ≤ wr.heap.size; omega
          have HWR := Lib.hid ((HSTR.out.below (below_drewN (Below.refl _ wr) 1)).flush (Nat.le_trans hB2 hszr0) (by omega) (dev : Int))
          have hcs := HDK.out.flush_cases HONR.out
          go_wp2_with fail
          refine Ord.region_ord [] [0, 1, 2, 3, 4, 5, 6, 7, 8, 9] (by kernel_rfl) (by kernel_rfl) (by kernel_rfl) (by kernel_rfl) (Ord.ord_all [_, _, _, _, _, _, _, _, _, _] rfl (by kernel_rfl) ?_)
          go_wp2_with fail
          refine HWR.out.mono ?_
          rintro e w7 ⟨rfl, hst7, hm7⟩
          have HMO7 := Lib.hid (HMO.out.drew.trans (hm7.mono hszr fun g hg hf => (HF'.out g hf).elim id (fun h => by omega)))
          have HF7 : Hid (∀ g, Grow F' wr.drew w7 g → F g ∨ w6.heap.size ≤ g) := Lib.hid (fun g hg => by
            rcases hg with hg | hg
            · exact HF'.out g hg
            · refine .inr ?_
              have h1 : wr.heap.size ≤ g := hg.1
              omega)
          have HXZ := Lib.hid (HX6.out.mods HMO7.out fun g hg hH => ⟨hg, fun hF => HX.out.apart g hF hH⟩)
          have HKRZ := Lib.hid (HKR6.out.mods HMO7.out HKR6.out.lt fun hF => by have := (HX.out.st.lt _ hF).2; omega)
          have HKXZ := Lib.hid (HKX6.out.mods HMO7.out HKX6.out.lt fun hF => by have := (HX.out.st.lt _ hF).2; omega)
          have HST7 := Lib.hid hst7
          clear c0 c1 hst7 hm7
          rcases hcs with ⟨he, hd7, hon7, hfu7⟩ | ⟨hfz, he, hd7, hoff7⟩
          · rw [he]
            have HD7 := Lib.hid hd7
            have HON7 := Lib.hid hon7
            have HFU7 := Lib.hid hfu7
            obtain ⟨s, hs⟩ : ∃ s, segs[at_ / 16]? = some s := ⟨_, List.getElem?_eq_getElem HOK0.out.2.2.1⟩
            have HS := Lib.hid hs
            have hz0 := (take_iff HX.out.ok.sok HOK0.out hs).2 HFREE.out
            have HTK := Lib.hid (take_any HXZ.out (at_, i) HOK0.out hat s hs (HX.out.ok.sok _ s hs).1 hul)
            have HZ0 := Lib.hid hz0
            have k0 := (HKXZ.out.cell 0).trans (show _ = some (.int .i64 (dev : Int)) from rfl)
            have k1 := (HKXZ.out.cell 1).trans (show _ = some (.int .i64 (at_ : Int)) from rfl)
            have k2 := (HKXZ.out.cell 2).trans (show _ = some (.int .i64 (i : Int)) from rfl)
            have k3 := (HKXZ.out.cell 3).trans (show _ = some (.bool false) from rfl)
            clear he hd7 hon7 hfu7 hs hz0
            go_wp2_with fail
            refine Ord.nx_end ?_
            go_wp2_with fail
            refine HTK.out.mono ?_
            rintro e w8 (⟨hnz, _, _⟩ | ⟨_, rfl, hx8, hm8⟩)
            · exact absurd HZ0.out hnz
            · have HX8 := Lib.hid hx8
              have HM8 := Lib.hid hm8
              have hkx8 := HKXZ.out.mods hm8 HKXZ.out.lt fun hH => by have := (HX.out.lt _ hH).2; omega
              have HKR8 := Lib.hid (HKRZ.out.mods hm8 HKRZ.out.lt fun hH => by have := (HX.out.lt _ hH).2; omega)
              have j0 := (hkx8.cell 0).trans (show _ = some (.int .i64 (dev : Int)) from rfl)
              have j1 := (hkx8.cell 1).trans (show _ = some (.int .i64 (at_ : Int)) from rfl)
              have j2 := (hkx8.cell 2).trans (show _ = some (.int .i64 (i : Int)) from rfl)
              have j3 := (hkx8.cell 3).trans (show _ = some (.bool false) from rfl)
              clear hx8 hm8 hkx8 k0 k1 k2 k3
              go_wp2_with
                (refine wpList_store_all rfl 36 (.tmp 4) (.tmp 81) rfl w.heap.size 36 [.int .i64 0, .int .i64 0, .int .i64 0, .bool false] [.int .i64 (dev : Int), .int .i64 (at_ : Int), .int .i64 (i : Int), .bool false] rfl rfl HKR8.out rfl (by kernel_rfl) (pc1_one _ _ _) ?_
                 intro w9 hb9 hg9 hz9
                 have HK9 := Lib.hid hb9
                 have HG9 := Lib.hid hg9
                 clear hb9 hg9 hz9)
              have hld := load_pc HK9.out
              refine bodyPost_ret (v := .tuple #[.agg #[.int .i64 (dev : Int), .int .i64 (at_ : Int), .int .i64 (i : Int), .bool false], .int .i64 0]) ?_ rfl ?_
              · simp [results, Tryd.results15, asAddr, hld]
              · have hok' : HotOk (segs.set (at_ / 16) (s ||| maskM (at_, i))) (used ++ [(at_, i)]) :=
                  ⟨take_ok HX.out.ok.sok HOK0.out HS.out, HX.out.ok.apart.snoc HFREE.out, fun u hu => by
                    rw [List.length_set]
                    rcases List.mem_append.1 hu with hu | hu
                    · exact HX.out.ok.ok u hu
                    · rw [List.mem_singleton] at hu; subst hu; exact HOK0.out, by rw [List.length_set]; exact HX.out.ok.few⟩
                obtain ⟨h1, h2, h3, h4⟩ := app_done HX.out hB HST7.out (by omega) HF7.out (fun g hg => (HST7.out.lt g hg).2) (by omega) HW6.out HMO7.out HD7.out HM8.out (fun g hg => hg) HX8.out hok' (List.length_set ..) HG9.out
                refine .inr (.inr ⟨at_, by rw [HL.out]; omega, by rw [HL.out, HM.out]; exact HR.out, _, _, _, h3, h4, h2, .inl ⟨by rw [HL.out, HM.out], HON7.out, fun h => HFU7.out (HFU.out h), segs.set (at_ / 16) (s ||| maskM (at_, i)), List.length_set .., by rw [HL.out, HM.out]; exact h1⟩⟩)
          · rw [he]
            have HD7 := Lib.hid hd7
            have HOFF7 := Lib.hid hoff7
            have HFZ := Lib.hid hfz
            clear he hd7 hoff7 hfz
            go_wp2_with fail
            refine Ord.nx_end ?_
            go_wp2_with
              (refine wpList_store_all rfl 36 (.tmp 4) (.tmp 76) rfl w.heap.size 36 [.int .i64 0, .int .i64 0, .int .i64 0, .bool false] [.int .i64 0, .int .i64 0, .int .i64 0, .bool false] rfl rfl HKRZ.out rfl (by kernel_rfl) pc0_one ?_
               intro w8 hb8 hg8 hz8
               have HK8 := Lib.hid hb8
               have HG8 := Lib.hid hg8
               have HZ8 := Lib.hid hz8
               clear hb8 hg8 hz8)
            have hld := load_pc HK8.out
            refine bodyPost_ret (v := .tuple #[.agg #[.int .i64 0, .int .i64 0, .int .i64 0, .bool false], .int .i64 2]) ?_ rfl ?_
            · simp [results, Tryd.results15, asAddr, hld]
            · obtain ⟨h1, h2, h3⟩ := app_fail HX.out HST7.out (by omega) HF7.out (by omega) HW6.out HMO7.out HXZ.out HD7.out HG8.out
              refine .inr (.inr ⟨at_, by rw [HL.out]; omega, by rw [HL.out, HM.out]; exact HR.out, _, H, _, h3, fun g hg => .inl hg, h2, .inr ⟨rfl, HOFF7.out, fun e => ?_, i, by rw [HL.out, HM.out]; omega, h1⟩⟩)
              have := HFU.out e
              rw [HFZ.out] at this
              cases this
end Go.Proofs.YtgcckfaljfkkhaaDoor.Hot
