/- Layer 2 (sha): the words told as bytes; the first words. -/
import Derived.Test.YtloffgoenaomkaaDoorSha3
namespace Go.Proofs.YtloffgoenaomkaaDoor.Sha
open Go Go.RowKit Mem Pl Crc Hash
def S8w.get (s : S8w) : Nat → W32
  | 0 => s.a
  | 1 => s.b
  | 2 => s.c
  | 3 => s.d
  | 4 => s.e
  | 5 => s.f
  | 6 => s.g
  | _ => s.h
def byteW (x : W32) (j : Nat) : UInt8 := UInt8.ofNat (x.toNat / 2 ^ (24 - 8 * j))
def toldB (s : S8w) (q : Nat) : UInt8 := byteW (s.get (q / 4)) (q % 4)
def toldP (s : S8w) (q : Nat) : List UInt8 := (List.range q).map (toldB s) ++ List.replicate (32 - q) 0
def toldM (s : S8w) : List UInt8 := (List.range 32).map (toldB s)
theorem toldM_len (s : S8w) : (toldM s).length = 32 := by simp [toldM]
theorem toldP_len (s : S8w) {q : Nat} (h : q ≤ 32) : (toldP s q).length = 32 := by simp [toldP]; omega
theorem toldP_set (s : S8w) {q : Nat} (h : q < 32) : (toldP s q).set q (toldB s q) = toldP s (q + 1) := by
  unfold toldP
  obtain ⟨m, hm⟩ : ∃ m, 32 - q = m + 1 := ⟨31 - q, by omega⟩
  rw [hm, show 32 - (q + 1) = m by omega, List.range_succ, List.map_append, List.replicate_succ, List.set_append]
  simp
theorem get_run (s : S8w) (i : Nat) (hi : i < 8) (W : World) : (Instr.index 144 (.agg #[.int .u32 (U s.a), .int .u32 (U s.b), .int .u32 (U s.c), .int .u32 (U s.d), .int .u32 (U s.e), .int .u32 (U s.f), .int .u32 (U s.g), .int .u32 (U s.h)]) (.int .i64 (i : Int))).run Tryd.prog W = .ok (.int .u32 (U (s.get i))) W := by
  have h8 : i = 0 ∨ i = 1 ∨ i = 2 ∨ i = 3 ∨ i = 4 ∨ i = 5 ∨ i = 6 ∨ i = 7 := by omega
  rcases h8 with rfl | rfl | rfl | rfl | rfl | rfl | rfl | rfl <;> (clear hi; change _ = _; kernel_rfl)
def ToldO (w : World) (s : S8w) (iv : Value) (wr : World) : Prop :=
  ∃ i : Nat, i ≤ 8 ∧ iv = .int .i64 (i : Int) ∧ Blk wr (w.heap.size + 1 + 1) 44 (cellsOf (toldP s (4 * i))) ∧ Blk wr (w.heap.size + 1) 44 (cellsOf z32) ∧ Below w.heap.size w wr
def ToldI (w : World) (s : S8w) (i : Nat) (jv : Value) (wr : World) : Prop :=
  ∃ j : Nat, j ≤ 4 ∧ jv = .int .i64 (j : Int) ∧ Blk wr (w.heap.size + 1 + 1) 44 (cellsOf (toldP s (4 * i + j))) ∧ Blk wr (w.heap.size + 1) 44 (cellsOf z32) ∧ Below w.heap.size w wr
set_option maxRecDepth 100000 in
set_option maxHeartbeats 8000000 in
theorem told_any (w : World) (s : S8w) : Calls Tryd.prog 80 #[.agg s.cells.toArray] w fun e w' => e = .returned (.agg (cellsOf (toldM s))) ∧ Below w.heap.size w w' := by
  show Calls Tryd.prog 80 #[.agg #[.int .u32 (U s.a), .int .u32 (U s.b), .int .u32 (U s.c), .int .u32 (U s.d), .int .u32 (U s.e), .int .u32 (U s.f), .int .u32 (U s.g), .int .u32 (U s.h)]] w _
  have hal := run_allocHash
  have hk0 : Blk (((w.alloc (.cells s.cells.toArray 144)).alloc (.cells (cellsOf z32) 44)).alloc (.cells (cellsOf z32) 44)) (w.heap.size + 1 + 1) 44 (cellsOf (toldP s 0)) := by
    have := Blk.new ((w.alloc (.cells s.cells.toArray 144)).alloc (.cells (cellsOf z32) 44)) 44 (cellsOf z32)
    simp only [World.size_alloc] at this
    exact this
  have hk1 : Blk (((w.alloc (.cells s.cells.toArray 144)).alloc (.cells (cellsOf z32) 44)).alloc (.cells (cellsOf z32) 44)) (w.heap.size + 1) 44 (cellsOf z32) := by
    have := (Blk.new (w.alloc (.cells s.cells.toArray 144)) 44 (cellsOf z32)).alloc (.cells (cellsOf z32) 44)
    simp only [World.size_alloc] at this
    exact this
  have hb0 : Below w.heap.size w (((w.alloc (.cells s.cells.toArray 144)).alloc (.cells (cellsOf z32) 44)).alloc (.cells (cellsOf z32) 44)) := ((below_al' _).alloc (by simp) _).alloc (by simp; omega) _
  have hks := ((Blk.new w 144 s.cells.toArray).alloc (.cells (cellsOf z32) 44)).alloc (.cells (cellsOf z32) 44)
  have c0 := hks.cell 0
  have c1 := hks.cell 1
  have c2 := hks.cell 2
  have c3 := hks.cell 3
  have c4 := hks.cell 4
  have c5 := hks.cell 5
  have c6 := hks.cell 6
  have c7 := hks.cell 7
  simp [S8w.cells] at c0 c1 c2 c3 c4 c5 c6 c7
  have HK0 := Lib.hid (⟨hk0, hk1, hb0⟩ : _ ∧ _ ∧ _)
  have HGET := Lib.hid (get_run s)
  clear hk0 hk1 hb0 hks
  go_enter Tryd.func80, Tryd.ntmps80
  go_wp2_with fail
  clear c0 c1 c2 c3 c4 c5 c6 c7
  go_loopw [8] (fun iv wr => ToldO w s iv wr) (fun iv _ => 8 - (intOf iv).toNat)
  case atStart => exact ⟨0, by decide, rfl, HK0.out⟩
  case round =>
    obtain ⟨i, hi, rfl, ho⟩ := hrel
    have HO := Lib.hid ho
    clear ho
    by_cases hlt : i < 8
    · have hltI : (i : Int) < 8 := by omega
      have hget := HGET.out i hlt
      obtain ⟨x, hx⟩ : ∃ x, s.get i = x := ⟨_, rfl⟩
      rw [hx] at hget
      have HX := Lib.hid (⟨hx, hlt⟩ : _ ∧ _)
      have hi1 : IntKind.i64.wrap ((i : Int) + 1) = (i : Int) + 1 := IntWalk.i64_in _ (by omega)
      have hi4 : IntKind.i64.wrap (4 * (i : Int)) = 4 * (i : Int) := IntWalk.i64_in _ (by omega)
      clear hx hlt
      go_wp2_with fail
      go_loopw [12] (fun jv wr => ToldI w s i jv wr) (fun jv _ => 4 - (intOf jv).toNat)
      case atStart => exact ⟨0, by decide, rfl, HO.out⟩
      case round =>
        obtain ⟨j, hj, rfl, ho1, ho2, ho3⟩ := hrel
        have HJ := Lib.hid (⟨ho1, ho2, ho3⟩ : _ ∧ _ ∧ _)
        clear ho1 ho2 ho3
        by_cases hltj : j < 4
        · have hltI : (j : Int) < 4 := by omega
          obtain ⟨q, hq⟩ : ∃ q, 4 * i + j = q := ⟨_, rfl⟩
          obtain ⟨sh, hsh⟩ : ∃ sh, 24 - 8 * j = sh := ⟨_, rfl⟩
          have e1 : IntKind.i64.wrap (4 * (i : Int) + (j : Int)) = (q : Int) := by rw [show 4 * (i : Int) + (j : Int) = (q : Int) by omega]; exact IntWalk.i64_in _ (by have := HX.out.2; omega)
          have e2 : IntKind.i64.wrap (8 * (j : Int)) = 8 * (j : Int) := IntWalk.i64_in _ (by omega)
          have e3 : IntKind.i64.wrap (24 - 8 * (j : Int)) = (sh : Int) := by rw [show 24 - 8 * (j : Int) = (sh : Int) by omega]; exact IntWalk.i64_in _ (by omega)
          have hq32 : q < 32 := by have := HX.out.2; omega
          have hc := HJ.out.1.byte (k := q) (by rw [toldP_len s (by omega)]; exact hq32)
          rw [hq] at hc
          have hfr := HJ.out.1.frozen q
          have hsh24 : sh ≤ 24 := by omega
          go_wp2_with fail
          have hby : U x / 2 ^ sh % 256 = V8 (toldB s q) := by
            have hqi : q / 4 = i := by omega
            have hqj : q % 4 = j := by omega
            unfold toldB byteW
            rw [hqi, hqj, HX.out.1, hsh]
            show _ = ((UInt8.ofNat (x.toNat / 2 ^ sh)).toNat : Int)
            rw [UInt8.toNat_ofNat']
            unfold U
            rw [show ((2 : Int) ^ sh) = ((2 ^ sh : Nat) : Int) by simp]
            omega
          rw [hby]
          have hset := HJ.out.1.setByte q (toldB s q)
          rw [hq, toldP_set s hq32] at hset
          have HSET := Lib.hid hset
          have HBB := Lib.hid (HJ.out.2.2.setCell (p := ⟨w.heap.size + 1 + 1, q, none⟩) (by show w.heap.size ≤ w.heap.size + 1 + 1; omega) (.int .u8 (V8 (toldB s q))))
          have HOO := Lib.hid (HJ.out.2.1.far (p := ⟨w.heap.size + 1 + 1, q, none⟩) (by show w.heap.size + 1 ≠ w.heap.size + 1 + 1; omega) (.int .u8 (V8 (toldB s q))))
          clear hset
          constructor
          · refine ⟨j + 1, by omega, by simp, ?_, HOO.out, HBB.out⟩
            rw [show 4 * i + (j + 1) = q + 1 by omega]
            exact HSET.out
          · simp [intOf]
            omega
        · have hltI : ¬ (j : Int) < 4 := by omega
          have HJ4 : Hid (Blk wr (w.heap.size + 1 + 1) 44 (cellsOf (toldP s (4 * (i + 1))))) := Lib.hid (by have := HJ.out.1; rw [show 4 * i + j = 4 * (i + 1) by omega] at this; exact this)
          go_wp2_with fail
          constructor
          · exact ⟨i + 1, by have := HX.out.2; omega, by simp, HJ4.out, HJ.out.2.1, HJ.out.2.2⟩
          · have := HX.out.2
            simp [intOf]
            omega
    · have hltI : ¬ (i : Int) < 8 := by omega
      have HK8 : Hid (Blk wr (w.heap.size + 1 + 1) 44 (cellsOf (toldM s))) := Lib.hid (by have := HO.out.1; rw [show 4 * i = 32 by omega, show toldP s 32 = toldM s by simp [toldP, toldM]] at this; exact this)
      go_wp2_with (first
        | (refine wpList_load_hash (op := ⟨some 28, _, _, _, _, _⟩) rfl (.tmp 3) rfl (w.heap.size + 1 + 1) _ (toldM s) rfl HK8.out (toldM_len s) ?_)
        | (refine wpList_store_hash rfl (.tmp 2) (.tmp 28) rfl (w.heap.size + 1) _ z32 (toldM s) rfl rfl HO.out.2.1 rfl (toldM_len s) ?_
           intro w9 hk9 hg9 hz9))
      have HB9 := Lib.hid (HO.out.2.2.grown hg9 HO.out.2.2.size (fun k hk => by injection hk with hk; omega))
      have hld := load_hash hk9 (toldM_len s)
      refine bodyPost_ret (v := .agg (cellsOf (toldM s))) ?_ rfl ⟨rfl, HB9.out⟩
      simp [results, Tryd.results80, asAddr, hld]
def startM : S8w := ⟨0x6a09e667, 0xbb67ae85, 0x3c6ef372, 0xa54ff53a, 0x510e527f, 0x9b05688c, 0x1f83d9ab, 0x5be0cd19⟩
set_option maxRecDepth 100000 in
theorem start_any (w : World) : Calls Tryd.prog 78 #[] w fun e w' => e = .returned (.agg startM.cells.toArray) ∧ Below w.heap.size w w' := by
  have hk := Blk.new w 144 zw.toArray
  have hb := below_al' (w := w) (.cells zw.toArray 144)
  have HK := Lib.hid (⟨hk, hb⟩ : _ ∧ _)
  clear hk hb
  go_enter Tryd.func78, Tryd.ntmps78
  go_wp2_with
    (refine wpList_store_all rfl 144 (.tmp 0) (.tmp 1) rfl w.heap.size 144 zw startM.cells rfl rfl HK.out.1 rfl (by kernel_rfl) (S8w.one _) ?_
     intro w9 hb9 hg9 hz9)
  have hld := load_words (o := 0) hb9 startM (fun j u hu => by rw [Nat.zero_add]; simpa using hu)
  have hbb := HK.out.2.grown hg9 HK.out.2.size (fun k hk => by injection hk with hk; omega)
  refine bodyPost_ret (v := .agg startM.cells.toArray) ?_ rfl ⟨rfl, hbb⟩
  simp [results, Tryd.results78, asAddr, Act.put, hld]
/-- A state in memory. -/
def StC (s : S8w) (v : Value) (n : Nat) : List Value := s.cells ++ [v, .int .u64 (n : Int)]
set_option maxRecDepth 100000 in
theorem new_any (w : World) : Calls Tryd.prog 67 #[] w fun e w' => ∃ g, e = .returned (.pointer (some ⟨g, 0, none⟩)) ∧ w.heap.size ≤ g ∧ Blk w' g 147 (StC startM (.slice none 0 0) 0).toArray ∧ Below w.heap.size w w' := by
  have HS := Lib.hid (start_any w)
  go_enter Tryd.func67, Tryd.ntmps67
  go_wp2_with fail
  refine HS.out.mono ?_
  rintro e w1 ⟨rfl, hb1⟩
  have hk := Blk.new w1 147 (StC startM (.slice none 0 0) 0).toArray
  have HK := Lib.hid (⟨hk, hb1.alloc hb1.size (.cells (StC startM (.slice none 0 0) 0).toArray 147), hb1.size⟩ : _ ∧ _ ∧ _)
  clear hk hb1
  go_wp2_with fail
  go_ret
  exact ⟨w1.heap.size, rfl, HK.out.2.2, HK.out.1, HK.out.2.1⟩
end Go.Proofs.YtloffgoenaomkaaDoor.Sha
