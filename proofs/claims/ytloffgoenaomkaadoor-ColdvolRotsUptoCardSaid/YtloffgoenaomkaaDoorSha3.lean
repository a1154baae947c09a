/- Layer 2 (sha): a piece of 64 bytes, walked. -/
import Derived.Test.YtloffgoenaomkaaDoorFold18
import Derived.Test.YtloffgoenaomkaaDoorFold2
import Derived.BigRegion
namespace Go.Proofs.YtloffgoenaomkaaDoor.Sha
open Go Go.RowKit Mem Pl Crc Hash
def zw : List Value := [.int .u32 0, .int .u32 0, .int .u32 0, .int .u32 0, .int .u32 0, .int .u32 0, .int .u32 0, .int .u32 0]
/-- What a piece's loops keep. -/
structure Kept (w : World) (s : S8w) (l : List W32) (wr : World) : Prop where
  arr : Blk wr (w.heap.size + 1 + 1) 152 (arrW 64 l)
  own : Blk wr w.heap.size 144 s.cells.toArray
  out : Blk wr (w.heap.size + 1) 144 zw.toArray
  below : Below w.heap.size w wr
theorem Kept.put {w wr : World} {s : S8w} {l : List W32} (h : Kept w s l wr) (hl : l.length < 64) (x : W32) : Kept w s (l ++ [x]) (wr.setCell ⟨w.heap.size + 1 + 1, l.length, none⟩ (.int .u32 (U x))) :=
  ⟨by have := h.arr.set_ l.length (.int .u32 (U x)); rwa [arrW_put hl] at this, h.own.far (p := ⟨w.heap.size + 1 + 1, l.length, none⟩) (by show w.heap.size ≠ w.heap.size + 1 + 1; omega) _, h.out.far (p := ⟨w.heap.size + 1 + 1, l.length, none⟩) (by show w.heap.size + 1 ≠ w.heap.size + 1 + 1; omega) _, h.below.setCell (p := ⟨w.heap.size + 1 + 1, l.length, none⟩) (by show w.heap.size ≤ w.heap.size + 1 + 1; omega) _⟩
theorem Kept.drew {w wr : World} {s : S8w} {l : List W32} (h : Kept w s l wr) : Kept w s l wr.drew := ⟨h.arr.drew, h.own.drew, h.out.drew, below_drewN h.below 1⟩
theorem Kept.get {w wr : World} {s : S8w} {l : List W32} (h : Kept w s l wr) {i : Nat} (hi : i < l.length) : wr.cell? ⟨w.heap.size + 1 + 1, i, none⟩ = some (.int .u32 (U (l.getD i 0))) := by rw [h.arr.cell]; exact arrW_get hi
theorem Kept.zero {w wr : World} {s : S8w} {l : List W32} (h : Kept w s l wr) {i : Nat} (hi : l.length ≤ i) (hn : i < 64) : wr.cell? ⟨w.heap.size + 1 + 1, i, none⟩ = some (.int .u32 0) := by rw [h.arr.cell]; exact arrW_zero hi hn
def Sch1 (w : World) (s : S8w) (p : List UInt8) (iv : Value) (wr : World) : Prop := ∃ t : Nat, t ≤ 16 ∧ iv = .int .i64 (t : Int) ∧ Kept w s ((List.range t).map (wordM p)) wr
def Sch2 (w : World) (s : S8w) (p : List UInt8) (iv : Value) (wr : World) : Prop := ∃ k t : Nat, k ≤ 48 ∧ t = 16 + k ∧ iv = .int .i64 (t : Int) ∧ Kept w s (schedM p k) wr
def Sch4 (w : World) (s r : S8w) (iv : Value) (wr : World) : Prop :=
  ∃ i : Nat, i ≤ 8 ∧ iv = .int .i64 (i : Int) ∧ Blk wr w.heap.size 144 (mixM s r i).cells.toArray ∧ Blk wr (w.heap.size + 1) 144 zw.toArray ∧ Below w.heap.size w wr
def Sch3 (w : World) (s : S8w) (p : List UInt8) (a b c d e f g h iv : Value) (wr : World) : Prop :=
  ∃ t : Nat, t ≤ 64 ∧ a = .int .u32 (U (rndsM (schedM p 48) s t).a) ∧ b = .int .u32 (U (rndsM (schedM p 48) s t).b) ∧ c = .int .u32 (U (rndsM (schedM p 48) s t).c) ∧ d = .int .u32 (U (rndsM (schedM p 48) s t).d) ∧
    e = .int .u32 (U (rndsM (schedM p 48) s t).e) ∧ f = .int .u32 (U (rndsM (schedM p 48) s t).f) ∧ g = .int .u32 (U (rndsM (schedM p 48) s t).g) ∧ h = .int .u32 (U (rndsM (schedM p 48) s t).h) ∧ iv = .int .i64 (t : Int) ∧ Kept w s (schedM p 48) wr
attribute [local go_sem] z8_wrap z8_mod shl24 shl16 shl8 shl24' shl16' shl8' or_bv xor_bv and_bv add_bv add_bv' shr3 shr10 not_bv xor_shr3 xor_shr10 add3_bv add4_bv add5_bv
set_option maxRecDepth 100000 in
set_option maxHeartbeats 8000000 in
theorem piece_any (w : World) (s : S8w) (ad : Addr) (cap : Nat) (p : List UInt8) (hp : BAt w (some ad) p) (hl : p.length = 64) (hk : Ktab w) (hg : 1 < w.heap.size) :
    Calls Tryd.prog 79 #[.agg #[wv s.a, wv s.b, wv s.c, wv s.d, wv s.e, wv s.f, wv s.g, wv s.h], .slice (some ad) 64 cap] w fun e w' => e = .returned (.agg (pieceM s p).cells.toArray) ∧ Below w.heap.size w w' := by
  have hal := run_alloc64
  have HP := Lib.hid (⟨hp, hl⟩ : _ ∧ _)
  have HKT := Lib.hid hk
  clear hp hl hk
  show Calls Tryd.prog 79 #[.agg #[.int .u32 (U s.a), .int .u32 (U s.b), .int .u32 (U s.c), .int .u32 (U s.d), .int .u32 (U s.e), .int .u32 (U s.f), .int .u32 (U s.g), .int .u32 (U s.h)], .slice (some ad) 64 cap] w _
  go_enter Tryd.func79, Tryd.ntmps79
  have hkept : Kept w s [] (((w.alloc (.cells #[.int .u32 (U s.a), .int .u32 (U s.b), .int .u32 (U s.c), .int .u32 (U s.d), .int .u32 (U s.e), .int .u32 (U s.f), .int .u32 (U s.g), .int .u32 (U s.h)] 144)).alloc (.cells zw.toArray 144)).alloc (.cells (arrW 64 []) 152)) :=
    ⟨by have := Blk.new ((w.alloc (.cells #[.int .u32 (U s.a), .int .u32 (U s.b), .int .u32 (U s.c), .int .u32 (U s.d), .int .u32 (U s.e), .int .u32 (U s.f), .int .u32 (U s.g), .int .u32 (U s.h)] 144)).alloc (.cells zw.toArray 144)) 152 (arrW 64 []); simp only [World.size_alloc] at this; exact this,
     ((Blk.new w 144 s.cells.toArray).alloc _).alloc _,
     by have := (Blk.new (w.alloc (.cells #[.int .u32 (U s.a), .int .u32 (U s.b), .int .u32 (U s.c), .int .u32 (U s.d), .int .u32 (U s.e), .int .u32 (U s.f), .int .u32 (U s.g), .int .u32 (U s.h)] 144)) 144 zw.toArray).alloc (.cells (arrW 64 []) 152); simp only [World.size_alloc] at this; exact this,
     ((below_al' _).alloc (by simp) _).alloc (by simp; omega) _⟩
  have HKEPT := Lib.hid hkept
  clear hkept
  go_wp2_with fail
  clear hal
  go_loopw [27] (fun iv wr => Sch1 w s p iv wr) (fun iv _ => 16 - (intOf iv).toNat)
  case atStart => exact ⟨0, Nat.zero_le _, rfl, HKEPT.out⟩
  case round =>
    obtain ⟨t, ht, rfl, hk⟩ := hrel
    have HK := Lib.hid hk
    have hpb := HP.out.1.below hk.below
    clear hk
    by_cases hlt : t < 16
    · have hltI : (t : Int) < 16 := by omega
      obtain ⟨q, hq⟩ : ∃ q, 4 * t = q := ⟨_, rfl⟩
      have hw0 : IntKind.i64.wrap (4 * (t : Int)) = (q : Int) := by rw [show 4 * (t : Int) = (q : Int) by omega]; exact IntWalk.i64_in _ (by omega)
      have hw1 : IntKind.i64.wrap ((q : Int) + 1) = ((q + 1 : Nat) : Int) := by rw [show (q : Int) + 1 = ((q + 1 : Nat) : Int) by omega]; exact IntWalk.i64_in _ (by omega)
      have hw2 : IntKind.i64.wrap ((q : Int) + 2) = ((q + 2 : Nat) : Int) := by rw [show (q : Int) + 2 = ((q + 2 : Nat) : Int) by omega]; exact IntWalk.i64_in _ (by omega)
      have hw3 : IntKind.i64.wrap ((q : Int) + 3) = ((q + 3 : Nat) : Int) := by rw [show (q : Int) + 3 = ((q + 3 : Nat) : Int) by omega]; exact IntWalk.i64_in _ (by omega)
      obtain ⟨ad', he, hcell⟩ := hpb (by rw [HP.out.2]; decide)
      obtain rfl := Option.some.inj he
      have hq64 : q + 3 < 64 := by omega
      have c0 := hcell q (by rw [HP.out.2]; omega)
      have c1 := hcell (q + 1) (by rw [HP.out.2]; omega)
      have c2 := hcell (q + 2) (by rw [HP.out.2]; omega)
      have c3 := hcell (q + 3) (by rw [HP.out.2]; omega)
      obtain ⟨q1, hq1⟩ : ∃ q1, q + 1 = q1 := ⟨_, rfl⟩
      obtain ⟨q2, hq2⟩ : ∃ q2, q + 2 = q2 := ⟨_, rfl⟩
      obtain ⟨q3, hq3⟩ : ∃ q3, q + 3 = q3 := ⟨_, rfl⟩
      rw [hq1] at hw1 c1
      rw [hq2] at hw2 c2
      rw [hq3] at hw3 c3 hq64
      obtain ⟨b0, hb0⟩ : ∃ b, p.getD q 0 = b := ⟨_, rfl⟩
      obtain ⟨b1, hb1⟩ : ∃ b, p.getD q1 0 = b := ⟨_, rfl⟩
      obtain ⟨b2, hb2⟩ : ∃ b, p.getD q2 0 = b := ⟨_, rfl⟩
      obtain ⟨b3, hb3⟩ : ∃ b, p.getD q3 0 = b := ⟨_, rfl⟩
      rw [hb0] at c0
      rw [hb1] at c1
      rw [hb2] at c2
      rw [hb3] at c3
      have d0 : q < 64 := by omega
      have d1 : q1 < 64 := by omega
      have d2 : q2 < 64 := by omega
      have HQ := Lib.hid (⟨hq, hq1, hq2, hq3, hb0, hb1, hb2, hb3⟩ : _ ∧ _ ∧ _ ∧ _ ∧ _ ∧ _ ∧ _ ∧ _)
      clear hq hq1 hq2 hq3 hb0 hb1 hb2 hb3 hcell hpb he
      have hfr := HK.out.arr.frozen t
      have hct := HK.out.zero (i := t) (by simp) (by omega)
      go_wp2_with fail
      go_region
      have hset := HK.out.put (by simp; omega) (z8 b0 <<< 24 ||| z8 b1 <<< 16 ||| z8 b2 <<< 8 ||| z8 b3)
      rw [List.length_map, List.length_range] at hset
      have HS := Lib.hid hset
      clear hset
      go_wp2_with fail
      go_roundw
      case rel =>
        refine ⟨t + 1, hlt, by simp, ?_⟩
        have hq := HQ.out
        have hwd : wordM p t = z8 b0 <<< 24 ||| z8 b1 <<< 16 ||| z8 b2 <<< 8 ||| z8 b3 := by
          unfold wordM
          rw [hq.1, hq.2.1, hq.2.2.1, hq.2.2.2.1, hq.2.2.2.2.1, hq.2.2.2.2.2.1, hq.2.2.2.2.2.2.1, hq.2.2.2.2.2.2.2]
        rw [List.range_succ, List.map_append, List.map_cons, List.map_nil, hwd]
        exact HS.out.drew
      case measure => simp [intOf]; omega
    · have ht16 : t = 16 := by omega
      have hltI : ¬ (t : Int) < 16 := by omega
      have HK16 : Hid (Kept w s (schedM p 0) wr) := Lib.hid (by have := HK.out; rw [ht16] at this; exact this)
      clear ht16 ht hlt
      clear HKEPT HK hpb
      go_wp2_with fail
      go_loopw [7] (fun iv wr => Sch2 w s p iv wr) (fun iv _ => 64 - (intOf iv).toNat)
      case atStart => exact ⟨0, 16, Nat.zero_le _, rfl, rfl, HK16.out⟩
      case round =>
        obtain ⟨k, t, hk, ht2, rfl, hkp⟩ := hrel
        have HK := Lib.hid hkp
        have hsl := schedM_len p k
        by_cases hlt2 : t < 64
        · have hltI : (t : Int) < 64 := by omega
          obtain ⟨i1, hi1⟩ : ∃ i, k + 1 = i := ⟨_, rfl⟩
          obtain ⟨i9, hi9⟩ : ∃ i, k + 9 = i := ⟨_, rfl⟩
          obtain ⟨i14, hi14⟩ : ∃ i, k + 14 = i := ⟨_, rfl⟩
          have e1 : IntKind.i64.wrap ((t : Int) - 15) = (i1 : Int) := by rw [show (t : Int) - 15 = (i1 : Int) by omega]; exact IntWalk.i64_in _ (by omega)
          have e2 : IntKind.i64.wrap ((t : Int) - 2) = (i14 : Int) := by rw [show (t : Int) - 2 = (i14 : Int) by omega]; exact IntWalk.i64_in _ (by omega)
          have e3 : IntKind.i64.wrap ((t : Int) - 16) = (k : Int) := by rw [show (t : Int) - 16 = (k : Int) by omega]; exact IntWalk.i64_in _ (by omega)
          have e4 : IntKind.i64.wrap ((t : Int) - 7) = (i9 : Int) := by rw [show (t : Int) - 7 = (i9 : Int) by omega]; exact IntWalk.i64_in _ (by omega)
          have c1 := HK.out.get (i := i1) (by omega)
          have c14 := HK.out.get (i := i14) (by omega)
          have c0 := HK.out.get (i := k) (by omega)
          have c9 := HK.out.get (i := i9) (by omega)
          have ct := HK.out.zero (i := t) (by omega) hlt2
          have hfr := HK.out.arr.frozen t
          have d1 : i1 < 64 := by omega
          have d14 : i14 < 64 := by omega
          have d0 : k < 64 := by omega
          have d9 : i9 < 64 := by omega
          obtain ⟨x1, hx1⟩ : ∃ x, (schedM p k).getD i1 0 = x := ⟨_, rfl⟩
          obtain ⟨x14, hx14⟩ : ∃ x, (schedM p k).getD i14 0 = x := ⟨_, rfl⟩
          obtain ⟨x0, hx0⟩ : ∃ x, (schedM p k).getD k 0 = x := ⟨_, rfl⟩
          obtain ⟨x9, hx9⟩ : ∃ x, (schedM p k).getD i9 0 = x := ⟨_, rfl⟩
          rw [hx1] at c1
          rw [hx14] at c14
          rw [hx0] at c0
          rw [hx9] at c9
          have HQ := Lib.hid (⟨hi1, hi9, hi14, hx1, hx14, hx0, hx9, hsl, hk, ht2, hlt2⟩ : _ ∧ _ ∧ _ ∧ _ ∧ _ ∧ _ ∧ _ ∧ _ ∧ _ ∧ _ ∧ _)
          have HR := Lib.hid (fun (w : World) (x : W32) (n : Nat) (h1 : 1 ≤ n) (h2 : n ≤ 31) => rot_any w x n h1 h2)
          clear hi1 hi9 hi14 hx1 hx14 hx0 hx9 hsl hkp hk ht2 hlt2
          go_wp2_with fail
          go_region
          go_wp2_with fail
          refine (HR.out _ x1 7 (by decide) (by decide)).mono ?_
          rintro e _ ⟨rfl, rfl⟩
          go_wp2_with fail
          refine (HR.out _ x1 18 (by decide) (by decide)).mono ?_
          rintro e _ ⟨rfl, rfl⟩
          go_wp2_with fail
          refine (HR.out _ x14 17 (by decide) (by decide)).mono ?_
          rintro e _ ⟨rfl, rfl⟩
          go_wp2_with fail
          refine (HR.out _ x14 19 (by decide) (by decide)).mono ?_
          rintro e _ ⟨rfl, rfl⟩
          go_wp2_with fail
          go_region
          have hset := HK.out.put (by have := HQ.out; omega) (x0 + (rotr x1 7 ^^^ rotr x1 18 ^^^ x1 >>> 3) + x9 + (rotr x14 17 ^^^ rotr x14 19 ^^^ x14 >>> 10))
          rw [schedM_len, ← (show t = 16 + k from HQ.out.2.2.2.2.2.2.2.2.2.1)] at hset
          have HS := Lib.hid hset
          clear hset
          go_wp2_with fail
          go_roundw
          case rel =>
            obtain ⟨hi1, hi9, hi14, hx1, hx14, hx0, hx9, hsl, hk, ht2, hlt2⟩ := HQ.out
            refine ⟨k + 1, t + 1, by omega, by omega, by simp, ?_⟩
            have hsc : schedM p (k + 1) = schedM p k ++ [x0 + (rotr x1 7 ^^^ rotr x1 18 ^^^ x1 >>> 3) + x9 + (rotr x14 17 ^^^ rotr x14 19 ^^^ x14 >>> 10)] := by
              show schedM p k ++ _ = _
              rw [hi1, hi9, hi14, hx1, hx14, hx0, hx9]
              rfl
            rw [hsc]
            exact HS.out.drew.drew
          case measure =>
            have := HQ.out
            simp [intOf]
            omega
        · have hltI : ¬ (t : Int) < 64 := by omega
          have HK48 : Hid (Kept w s (schedM p 48) wr) := Lib.hid (by have := HK.out; rw [show k = 48 by omega] at this; exact this)
          clear hsl hkp HK16 HK hk ht2 hlt2
          have cs0 := HK48.out.own.cell 0
          have cs1 := HK48.out.own.cell 1
          have cs2 := HK48.out.own.cell 2
          have cs3 := HK48.out.own.cell 3
          have cs4 := HK48.out.own.cell 4
          have cs5 := HK48.out.own.cell 5
          have cs6 := HK48.out.own.cell 6
          have cs7 := HK48.out.own.cell 7
          simp [S8w.cells] at cs0 cs1 cs2 cs3 cs4 cs5 cs6 cs7
          go_wp2_with fail
          refine Ord.region_ord [] [0, 1, 2, 3, 4, 5, 6, 7, 8, 9, 10, 11, 12, 13, 14, 15, 16, 17, 18, 19, 20, 21, 22, 23] (by kernel_rfl) (by kernel_rfl) (by kernel_rfl) (by kernel_rfl) (Ord.ord_all [_, _, _, _, _, _, _, _, _, _, _, _, _, _, _, _, _, _, _, _, _, _, _, _] rfl (by kernel_rfl) ?_)
          go_wp2_with fail
          refine Ord.nx_end ?_
          clear cs0 cs1 cs2 cs3 cs4 cs5 cs6 cs7
          go_wp2_with fail
          have HK3 : Hid (Kept w s (schedM p 48) wr.drew) := Lib.hid HK48.out.drew
          go_loopw [12, 13, 14, 15, 16, 17, 18, 19, 125] (fun a b c d e f g h iv wr => Sch3 w s p a b c d e f g h iv wr) (fun _ _ _ _ _ _ _ _ iv _ => 64 - (intOf iv).toNat)
          case atStart => exact ⟨0, Nat.zero_le _, rfl, rfl, rfl, rfl, rfl, rfl, rfl, rfl, rfl, HK3.out⟩
          case round =>
            obtain ⟨t3, ht3, rfl, rfl, rfl, rfl, rfl, rfl, rfl, rfl, rfl, hkp⟩ := hrel
            have HK := Lib.hid hkp
            by_cases hlt3 : t3 < 64
            · have hltI3 : (t3 : Int) < 64 := by omega
              obtain ⟨r, hr⟩ : ∃ r, rndsM (schedM p 48) s t3 = r := ⟨_, rfl⟩
              rw [hr]
              have cw := HK.out.get (i := t3) (by rw [schedM_len]; omega)
              have ck := HKT.out.below HK.out.below hg t3 hlt3
              obtain ⟨xw, hxw⟩ : ∃ x, (schedM p 48).getD t3 0 = x := ⟨_, rfl⟩
              obtain ⟨xk, hxk⟩ : ∃ x, kTab.getD t3 0 = x := ⟨_, rfl⟩
              rw [hxw] at cw
              rw [hxk] at ck
              have HQ := Lib.hid (⟨hr, hxw, hxk, hlt3⟩ : _ ∧ _ ∧ _ ∧ _)
              have HR := Lib.hid (fun (w : World) (x : W32) (n : Nat) (h1 : 1 ≤ n) (h2 : n ≤ 31) => rot_any w x n h1 h2)
              clear hr hxw hxk hkp ht3
              go_wp2_with fail
              refine (HR.out _ r.e 6 (by decide) (by decide)).mono ?_
              rintro e _ ⟨rfl, rfl⟩
              go_wp2_with fail
              refine (HR.out _ r.e 11 (by decide) (by decide)).mono ?_
              rintro e _ ⟨rfl, rfl⟩
              go_wp2_with fail
              refine (HR.out _ r.e 25 (by decide) (by decide)).mono ?_
              rintro e _ ⟨rfl, rfl⟩
              go_wp2_with fail
              go_region
              go_wp2_with fail
              refine (HR.out _ r.a 2 (by decide) (by decide)).mono ?_
              rintro e _ ⟨rfl, rfl⟩
              go_wp2_with fail
              refine (HR.out _ r.a 13 (by decide) (by decide)).mono ?_
              rintro e _ ⟨rfl, rfl⟩
              go_wp2_with fail
              refine (HR.out _ r.a 22 (by decide) (by decide)).mono ?_
              rintro e _ ⟨rfl, rfl⟩
              go_wp2_with fail
              go_roundw
              case rel =>
                obtain ⟨hr, hxw, hxk, hlt3⟩ := HQ.out
                refine ⟨t3 + 1, by omega, ?_, ?_, ?_, ?_, ?_, ?_, ?_, ?_, by simp, HK.out.drew⟩ <;> (show _ = Value.int .u32 (U _); rw [show rndsM (schedM p 48) s (t3 + 1) = rndM r xk xw by rw [← hr, ← hxw, ← hxk]; rfl]; rfl)
              case measure => simp [intOf]; omega
            · have hltI3 : ¬ (t3 : Int) < 64 := by omega
              have ht64 : t3 = 64 := by omega
              obtain ⟨r, hr⟩ : ∃ r, rndsM (schedM p 48) s 64 = r := ⟨_, rfl⟩
              have HR := Lib.hid hr
              rw [ht64, hr]
              have HT64 := Lib.hid ht64
              clear ht64 hr hkp HK3 HK48 hlt3 ht3
              go_wp2_with fail
              go_loopw [199] (fun iv wr => Sch4 w s r iv wr) (fun iv _ => 8 - (intOf iv).toNat)
              case atStart => exact ⟨0, by decide, rfl, HK.out.own, HK.out.out, HK.out.below⟩
              case round =>
                obtain ⟨i, hi, rfl, ho1, ho2, ho3⟩ := hrel
                have HO := Lib.hid (⟨ho1, ho2, ho3⟩ : _ ∧ _ ∧ _)
                clear ho1 ho2 ho3
                have h8 : i = 0 ∨ i = 1 ∨ i = 2 ∨ i = 3 ∨ i = 4 ∨ i = 5 ∨ i = 6 ∨ i = 7 ∨ i = 8 := by omega
                rcases h8 with rfl | rfl | rfl | rfl | rfl | rfl | rfl | rfl | rfl
                · have hix : ∀ W : World, (Instr.index 143 (.agg #[.int .u32 (U r.a), .int .u32 (U r.b), .int .u32 (U r.c), .int .u32 (U r.d), .int .u32 (U r.e), .int .u32 (U r.f), .int .u32 (U r.g), .int .u32 (U r.h)]) (.int .i64 0)).run Tryd.prog W = .ok (.int .u32 (U r.a)) W := fun W => by kernel_rfl
                  have c := HO.out.1.cell 0
                  have f := HO.out.1.frozen 0
                  simp [S8w.cells, mixM] at c
                  have HSET := Lib.hid (HO.out.1.set_ 0 (.int .u32 (U (s.a + r.a))))
                  have HBB := Lib.hid (HO.out.2.2.setCell (p := ⟨w.heap.size, 0, none⟩) (Nat.le_refl _) (.int .u32 (U (s.a + r.a))))
                  have HOO := Lib.hid (HO.out.2.1.far (p := ⟨w.heap.size, 0, none⟩) (by show w.heap.size + 1 ≠ w.heap.size; omega) (.int .u32 (U (s.a + r.a))))
                  go_wp2_with fail
                  go_roundw
                  case rel => exact ⟨0 + 1, by decide, by simp, HSET.out, HOO.out, HBB.out⟩
                  case measure => simp [intOf]
                · have hix : ∀ W : World, (Instr.index 143 (.agg #[.int .u32 (U r.a), .int .u32 (U r.b), .int .u32 (U r.c), .int .u32 (U r.d), .int .u32 (U r.e), .int .u32 (U r.f), .int .u32 (U r.g), .int .u32 (U r.h)]) (.int .i64 1)).run Tryd.prog W = .ok (.int .u32 (U r.b)) W := fun W => by kernel_rfl
                  have c := HO.out.1.cell 1
                  have f := HO.out.1.frozen 1
                  simp [S8w.cells, mixM] at c
                  have HSET := Lib.hid (HO.out.1.set_ 1 (.int .u32 (U (s.b + r.b))))
                  have HBB := Lib.hid (HO.out.2.2.setCell (p := ⟨w.heap.size, 1, none⟩) (Nat.le_refl _) (.int .u32 (U (s.b + r.b))))
                  have HOO := Lib.hid (HO.out.2.1.far (p := ⟨w.heap.size, 1, none⟩) (by show w.heap.size + 1 ≠ w.heap.size; omega) (.int .u32 (U (s.b + r.b))))
                  go_wp2_with fail
                  go_roundw
                  case rel => exact ⟨1 + 1, by decide, by simp, HSET.out, HOO.out, HBB.out⟩
                  case measure => simp [intOf]
                · have hix : ∀ W : World, (Instr.index 143 (.agg #[.int .u32 (U r.a), .int .u32 (U r.b), .int .u32 (U r.c), .int .u32 (U r.d), .int .u32 (U r.e), .int .u32 (U r.f), .int .u32 (U r.g), .int .u32 (U r.h)]) (.int .i64 2)).run Tryd.prog W = .ok (.int .u32 (U r.c)) W := fun W => by kernel_rfl
                  have c := HO.out.1.cell 2
                  have f := HO.out.1.frozen 2
                  simp [S8w.cells, mixM] at c
                  have HSET := Lib.hid (HO.out.1.set_ 2 (.int .u32 (U (s.c + r.c))))
                  have HBB := Lib.hid (HO.out.2.2.setCell (p := ⟨w.heap.size, 2, none⟩) (Nat.le_refl _) (.int .u32 (U (s.c + r.c))))
                  have HOO := Lib.hid (HO.out.2.1.far (p := ⟨w.heap.size, 2, none⟩) (by show w.heap.size + 1 ≠ w.heap.size; omega) (.int .u32 (U (s.c + r.c))))
                  go_wp2_with fail
                  go_roundw
                  case rel => exact ⟨2 + 1, by decide, by simp, HSET.out, HOO.out, HBB.out⟩
                  case measure => simp [intOf]
                · have hix : ∀ W : World, (Instr.index 143 (.agg #[.int .u32 (U r.a), .int .u32 (U r.b), .int .u32 (U r.c), .int .u32 (U r.d), .int .u32 (U r.e), .int .u32 (U r.f), .int .u32 (U r.g), .int .u32 (U r.h)]) (.int .i64 3)).run Tryd.prog W = .ok (.int .u32 (U r.d)) W := fun W => by kernel_rfl
                  have c := HO.out.1.cell 3
                  have f := HO.out.1.frozen 3
                  simp [S8w.cells, mixM] at c
                  have HSET := Lib.hid (HO.out.1.set_ 3 (.int .u32 (U (s.d + r.d))))
                  have HBB := Lib.hid (HO.out.2.2.setCell (p := ⟨w.heap.size, 3, none⟩) (Nat.le_refl _) (.int .u32 (U (s.d + r.d))))
                  have HOO := Lib.hid (HO.out.2.1.far (p := ⟨w.heap.size, 3, none⟩) (by show w.heap.size + 1 ≠ w.heap.size; omega) (.int .u32 (U (s.d + r.d))))
                  go_wp2_with fail
                  go_roundw
                  case rel => exact ⟨3 + 1, by decide, by simp, HSET.out, HOO.out, HBB.out⟩
                  case measure => simp [intOf]
                · have hix : ∀ W : World, (Instr.index 143 (.agg #[.int .u32 (U r.a), .int .u32 (U r.b), .int .u32 (U r.c), .int .u32 (U r.d), .int .u32 (U r.e), .int .u32 (U r.f), .int .u32 (U r.g), .int .u32 (U r.h)]) (.int .i64 4)).run Tryd.prog W = .ok (.int .u32 (U r.e)) W := fun W => by kernel_rfl
                  have c := HO.out.1.cell 4
                  have f := HO.out.1.frozen 4
                  simp [S8w.cells, mixM] at c
                  have HSET := Lib.hid (HO.out.1.set_ 4 (.int .u32 (U (s.e + r.e))))
                  have HBB := Lib.hid (HO.out.2.2.setCell (p := ⟨w.heap.size, 4, none⟩) (Nat.le_refl _) (.int .u32 (U (s.e + r.e))))
                  have HOO := Lib.hid (HO.out.2.1.far (p := ⟨w.heap.size, 4, none⟩) (by show w.heap.size + 1 ≠ w.heap.size; omega) (.int .u32 (U (s.e + r.e))))
                  go_wp2_with fail
                  go_roundw
                  case rel => exact ⟨4 + 1, by decide, by simp, HSET.out, HOO.out, HBB.out⟩
                  case measure => simp [intOf]
                · have hix : ∀ W : World, (Instr.index 143 (.agg #[.int .u32 (U r.a), .int .u32 (U r.b), .int .u32 (U r.c), .int .u32 (U r.d), .int .u32 (U r.e), .int .u32 (U r.f), .int .u32 (U r.g), .int .u32 (U r.h)]) (.int .i64 5)).run Tryd.prog W = .ok (.int .u32 (U r.f)) W := fun W => by kernel_rfl
                  have c := HO.out.1.cell 5
                  have f := HO.out.1.frozen 5
                  simp [S8w.cells, mixM] at c
                  have HSET := Lib.hid (HO.out.1.set_ 5 (.int .u32 (U (s.f + r.f))))
                  have HBB := Lib.hid (HO.out.2.2.setCell (p := ⟨w.heap.size, 5, none⟩) (Nat.le_refl _) (.int .u32 (U (s.f + r.f))))
                  have HOO := Lib.hid (HO.out.2.1.far (p := ⟨w.heap.size, 5, none⟩) (by show w.heap.size + 1 ≠ w.heap.size; omega) (.int .u32 (U (s.f + r.f))))
                  go_wp2_with fail
                  go_roundw
                  case rel => exact ⟨5 + 1, by decide, by simp, HSET.out, HOO.out, HBB.out⟩
                  case measure => simp [intOf]
                · have hix : ∀ W : World, (Instr.index 143 (.agg #[.int .u32 (U r.a), .int .u32 (U r.b), .int .u32 (U r.c), .int .u32 (U r.d), .int .u32 (U r.e), .int .u32 (U r.f), .int .u32 (U r.g), .int .u32 (U r.h)]) (.int .i64 6)).run Tryd.prog W = .ok (.int .u32 (U r.g)) W := fun W => by kernel_rfl
                  have c := HO.out.1.cell 6
                  have f := HO.out.1.frozen 6
                  simp [S8w.cells, mixM] at c
                  have HSET := Lib.hid (HO.out.1.set_ 6 (.int .u32 (U (s.g + r.g))))
                  have HBB := Lib.hid (HO.out.2.2.setCell (p := ⟨w.heap.size, 6, none⟩) (Nat.le_refl _) (.int .u32 (U (s.g + r.g))))
                  have HOO := Lib.hid (HO.out.2.1.far (p := ⟨w.heap.size, 6, none⟩) (by show w.heap.size + 1 ≠ w.heap.size; omega) (.int .u32 (U (s.g + r.g))))
                  go_wp2_with fail
                  go_roundw
                  case rel => exact ⟨6 + 1, by decide, by simp, HSET.out, HOO.out, HBB.out⟩
                  case measure => simp [intOf]
                · have hix : ∀ W : World, (Instr.index 143 (.agg #[.int .u32 (U r.a), .int .u32 (U r.b), .int .u32 (U r.c), .int .u32 (U r.d), .int .u32 (U r.e), .int .u32 (U r.f), .int .u32 (U r.g), .int .u32 (U r.h)]) (.int .i64 7)).run Tryd.prog W = .ok (.int .u32 (U r.h)) W := fun W => by kernel_rfl
                  have c := HO.out.1.cell 7
                  have f := HO.out.1.frozen 7
                  simp [S8w.cells, mixM] at c
                  have HSET := Lib.hid (HO.out.1.set_ 7 (.int .u32 (U (s.h + r.h))))
                  have HBB := Lib.hid (HO.out.2.2.setCell (p := ⟨w.heap.size, 7, none⟩) (Nat.le_refl _) (.int .u32 (U (s.h + r.h))))
                  have HOO := Lib.hid (HO.out.2.1.far (p := ⟨w.heap.size, 7, none⟩) (by show w.heap.size + 1 ≠ w.heap.size; omega) (.int .u32 (U (s.h + r.h))))
                  go_wp2_with fail
                  go_roundw
                  case rel => exact ⟨7 + 1, by decide, by simp, HSET.out, HOO.out, HBB.out⟩
                  case measure => simp [intOf]
                · have c0 := HO.out.1.cell 0
                  have c1 := HO.out.1.cell 1
                  have c2 := HO.out.1.cell 2
                  have c3 := HO.out.1.cell 3
                  have c4 := HO.out.1.cell 4
                  have c5 := HO.out.1.cell 5
                  have c6 := HO.out.1.cell 6
                  have c7 := HO.out.1.cell 7
                  simp [S8w.cells, mixM] at c0 c1 c2 c3 c4 c5 c6 c7
                  go_wp2_with
                    (refine wpList_store_all rfl 144 (.tmp 4) (.tmp 210) rfl (w.heap.size + 1) 144 zw (addM s r).cells rfl rfl HO.out.2.1 rfl (by kernel_rfl) (S8w.one _) ?_
                     intro w9 hb9 hg9 hz9)
                  have hld := load_words (o := 0) hb9 (addM s r) (fun j u hu => by rw [Nat.zero_add]; simpa using hu)
                  have hbb := HO.out.2.2.grown hg9 HO.out.2.2.size (fun k hk => by injection hk with hk; omega)
                  refine bodyPost_ret (v := .agg (addM s r).cells.toArray) ?_ rfl ⟨?_, hbb⟩
                  · simp [results, Tryd.results79, asAddr, Act.put, hld]
                  · unfold pieceM
                    rw [HR.out]
end Go.Proofs.YtloffgoenaomkaaDoor.Sha
