/- Layer 2 (sha): words. -/
import Derived.Test.YtloffgoenaomkaaDoorFold8
import Derived.Test.YtloffgoenaomkaaDoorHash
namespace Go.Proofs.YtloffgoenaomkaaDoor.Sha
open Go Go.RowKit Mem Pl Crc Hash
theorem or_bv (x y : BitVec 32) : bits .or .u32 (U x) (U y) = U (x ||| y) := by
  unfold U
  show IntKind.u32.wrap ((BitVec.ofInt 32 (x.toNat : Int) ||| BitVec.ofInt 32 (y.toNat : Int)).toNat : Int) = _
  rw [BitVec.toNat_or, ofInt_u32 _ x.isLt, ofInt_u32 _ y.isLt, ← BitVec.toNat_or, IntKind.wrap_u32]
  have h := (x ||| y).isLt
  omega
theorem and_bv (x y : BitVec 32) : bits .and .u32 (U x) (U y) = U (x &&& y) := by
  unfold U
  show IntKind.u32.wrap ((BitVec.ofInt 32 (x.toNat : Int) &&& BitVec.ofInt 32 (y.toNat : Int)).toNat : Int) = _
  rw [BitVec.toNat_and, ofInt_u32 _ x.isLt, ofInt_u32 _ y.isLt, ← BitVec.toNat_and, IntKind.wrap_u32]
  have h := (x &&& y).isLt
  omega
theorem add_bv (x y : BitVec 32) : (U x + U y) % 4294967296 = U (x + y) := by
  unfold U
  rw [BitVec.toNat_add]
  omega
theorem add_bv' (x y : BitVec 32) : IntKind.u32.wrap (U x + U y) = U (x + y) := by
  rw [IntKind.wrap_u32]
  exact add_bv x y
theorem shl_bv (x : BitVec 32) (k : Nat) (n : Int) (h : n = 2 ^ k) : (U x * n) % 4294967296 = U (x <<< k) := by
  unfold U
  rw [BitVec.toNat_shiftLeft, Nat.shiftLeft_eq, h]
  simp
theorem shl_bv' (x : BitVec 32) (k : Nat) (n : Int) (h : n = 2 ^ k) : IntKind.u32.wrap (U x * n) = U (x <<< k) := by
  rw [IntKind.wrap_u32]
  exact shl_bv x k n h
/-- Turned to the right. -/
def rotr (x : BitVec 32) (n : Nat) : BitVec 32 := x <<< (32 - n) ||| x >>> n
theorem and31 : ∀ m : Fin 32, bits .and .u64 (IntKind.u64.wrap (-(m.1 : Int))) 31 = (((32 - m.1) % 32 : Nat) : Int) := by decide
theorem rot_any (w : World) (x : BitVec 32) (n : Nat) (h1 : 1 ≤ n) (h2 : n ≤ 31) : Calls Tryd.prog 82 #[.int .u32 (U x), .int .i64 (-(n : Int))] w fun e w' => e = .returned (.int .u32 (U (rotr x n))) ∧ w = w' := by
  have ha := and31 ⟨n, by omega⟩
  obtain ⟨s, hs⟩ : ∃ s, 32 - n = s := ⟨_, rfl⟩
  rw [show (32 - (⟨n, by omega⟩ : Fin 32).1) % 32 = s by show (32 - n) % 32 = s; omega] at ha
  have hsub : IntKind.u64.wrap (32 - (s : Int)) = (n : Int) := by rw [show 32 - (s : Int) = (n : Int) by omega]; exact IntWalk.u64_in _ (by omega)
  have hl := shl_bv x s (2 ^ s) rfl
  have hl' := shl_bv' x s (2 ^ s) rfl
  have hr := shr_bv x n (2 ^ n) rfl
  have ho := or_bv (x <<< s) (x >>> n)
  have he : rotr x n = x <<< s ||| x >>> n := by unfold rotr; rw [hs]
  rw [he]
  clear he
  simp only at ha
  go_enter Tryd.func82, Tryd.ntmps82
  go_wp2_with fail
  go_ret
  exact ⟨rfl, rfl⟩
end Go.Proofs.YtloffgoenaomkaaDoor.Sha
/- Layer 2 (sha): a piece of 64 bytes: what it makes of the words. -/
namespace Go.Proofs.YtloffgoenaomkaaDoor.Sha
open Go Go.RowKit Mem Pl Crc Hash
abbrev W32 := BitVec 32
/-- The word of four bytes. -/
def wordM (p : List UInt8) (t : Nat) : W32 := z8 (p.getD (4 * t) 0) <<< 24 ||| z8 (p.getD (4 * t + 1) 0) <<< 16 ||| z8 (p.getD (4 * t + 2) 0) <<< 8 ||| z8 (p.getD (4 * t + 3) 0)
def sig0 (x : W32) : W32 := rotr x 7 ^^^ rotr x 18 ^^^ x >>> 3
def sig1 (x : W32) : W32 := rotr x 17 ^^^ rotr x 19 ^^^ x >>> 10
/-- The words of a piece, so many. -/
def schedM (p : List UInt8) : Nat → List W32
  | 0 => (List.range 16).map (wordM p)
  | k + 1 => schedM p k ++ [(schedM p k).getD k 0 + sig0 ((schedM p k).getD (k + 1) 0) + (schedM p k).getD (k + 9) 0 + sig1 ((schedM p k).getD (k + 14) 0)]
theorem schedM_len (p : List UInt8) : ∀ k, (schedM p k).length = 16 + k
  | 0 => by simp [schedM]
  | k + 1 => by simp [schedM, schedM_len p k]; omega
def wv (x : W32) : Value := .int .u32 (U x)
/-- Cells: these words, then noughts. -/
def arrW (n : Nat) (l : List W32) : Array Value := ((l ++ List.replicate (n - l.length) 0).map wv).toArray
theorem run_alloc64 (w : World) : (Instr.alloc 152 true (.tuple #[])).run Tryd.prog w = .ok (.pointer (some ⟨w.heap.size, 0, none⟩)) (w.alloc (.cells (arrW 64 []) 152)) := by kernel_rfl
theorem z8_mod (c : UInt8) : V8 c % 4294967296 = U (z8 c) := by
  have : c.toNat < 256 := c.toNat_lt
  unfold U V8
  rw [z8_toNat]
  omega
theorem z8_wrap (c : UInt8) : IntKind.u32.wrap (V8 c) = U (z8 c) := by rw [IntKind.wrap_u32, z8_mod]
theorem shl24 (x : W32) : (U x * 16777216) % 4294967296 = U (x <<< 24) := shl_bv x 24 _ rfl
theorem shl16 (x : W32) : (U x * 65536) % 4294967296 = U (x <<< 16) := shl_bv x 16 _ rfl
theorem shl8 (x : W32) : (U x * 256) % 4294967296 = U (x <<< 8) := shl_bv x 8 _ rfl
theorem shl24' (x : W32) : IntKind.u32.wrap (U x * 16777216) = U (x <<< 24) := shl_bv' x 24 _ rfl
theorem shl16' (x : W32) : IntKind.u32.wrap (U x * 65536) = U (x <<< 16) := shl_bv' x 16 _ rfl
theorem shl8' (x : W32) : IntKind.u32.wrap (U x * 256) = U (x <<< 8) := shl_bv' x 8 _ rfl
theorem arrW_put {n : Nat} {l : List W32} (h : l.length < n) (x : W32) : (arrW n l).setIfInBounds l.length (.int .u32 (U x)) = arrW n (l ++ [x]) := by
  unfold arrW
  rw [List.setIfInBounds_toArray]
  congr 1
  obtain ⟨m, hm⟩ : ∃ m, n - l.length = m + 1 := ⟨n - l.length - 1, by omega⟩
  have h2 : n - (l ++ [x]).length = m := by simp; omega
  rw [hm, h2, List.map_append, List.map_append, List.map_append, List.replicate_succ, List.set_append]
  simp [wv]
theorem arrW_get {n : Nat} {l : List W32} {i : Nat} (h : i < l.length) : (arrW n l)[i]? = some (.int .u32 (U (l.getD i 0))) := by
  unfold arrW
  simp only [List.map_append, List.getElem?_toArray]
  rw [List.getElem?_append_left (by simpa using h), List.getElem?_map, List.getElem?_eq_getElem h, List.getD_eq_getElem?_getD, List.getElem?_eq_getElem h]
  rfl
theorem arrW_zero {n : Nat} {l : List W32} {i : Nat} (h : l.length ≤ i) (hn : i < n) : (arrW n l)[i]? = some (.int .u32 0) := by
  unfold arrW
  simp only [List.map_append, List.getElem?_toArray]
  rw [List.getElem?_append_right (by simpa using h), List.getElem?_map, List.getElem?_replicate]
  rw [if_pos (by simp; omega)]
  rfl
theorem shr3 (x : W32) : U x / (8 : Int) = U (x >>> 3) := shr_bv x 3 _ rfl
theorem shr10 (x : W32) : U x / (1024 : Int) = U (x >>> 10) := shr_bv x 10 _ rfl
theorem xor_shr3 (x y : W32) : bits .xor .u32 (U x) (U y / (8 : Int)) = U (x ^^^ y >>> 3) := by rw [shr3, xor_bv]
theorem xor_shr10 (x y : W32) : bits .xor .u32 (U x) (U y / (1024 : Int)) = U (x ^^^ y >>> 10) := by rw [shr10, xor_bv]
theorem add3_bv (x y z : W32) : (U x + U y + U z) % 4294967296 = U (x + y + z) := by rw [← add_bv (x + y), ← add_bv x, Int.emod_add_emod]
theorem add4_bv (x y z v : W32) : (U x + U y + U z + U v) % 4294967296 = U (x + y + z + v) := by rw [← add_bv (x + y + z), ← add3_bv x, Int.emod_add_emod]
theorem add5_bv (x y z v u : W32) : (U x + U y + U z + U v + U u) % 4294967296 = U (x + y + z + v + u) := by rw [← add_bv (x + y + z + v), ← add4_bv x, Int.emod_add_emod]
/-- The constants. -/
def kTab : List W32 := [0x428a2f98, 0x71374491, 0xb5c0fbcf, 0xe9b5dba5, 0x3956c25b, 0x59f111f1, 0x923f82a4, 0xab1c5ed5,
  0xd807aa98, 0x12835b01, 0x243185be, 0x550c7dc3, 0x72be5d74, 0x80deb1fe, 0x9bdc06a7, 0xc19bf174,
  0xe49b69c1, 0xefbe4786, 0x0fc19dc6, 0x240ca1cc, 0x2de92c6f, 0x4a7484aa, 0x5cb0a9dc, 0x76f988da,
  0x983e5152, 0xa831c66d, 0xb00327c8, 0xbf597fc7, 0xc6e00bf3, 0xd5a79147, 0x06ca6351, 0x14292967,
  0x27b70a85, 0x2e1b2138, 0x4d2c6dfc, 0x53380d13, 0x650a7354, 0x766a0abb, 0x81c2c92e, 0x92722c85,
  0xa2bfe8a1, 0xa81a664b, 0xc24b8b70, 0xc76c51a3, 0xd192e819, 0xd6990624, 0xf40e3585, 0x106aa070,
  0x19a4c116, 0x1e376c08, 0x2748774c, 0x34b0bcb5, 0x391c0cb3, 0x4ed8aa4a, 0x5b9cca4f, 0x682e6ff3,
  0x748f82ee, 0x78a5636f, 0x84c87814, 0x8cc70208, 0x90befffa, 0xa4506ceb, 0xbef9a3f7, 0xc67178f2]
def Ktab (w : World) : Prop := ∀ i, i < 64 → w.cell? ⟨1, i, none⟩ = some (.int .u32 (U (kTab.getD i 0)))
theorem Ktab.below {w w' : World} {B : Nat} (h : Ktab w) (hb : Below B w w') (hB : 1 < B) : Ktab w' := fun i hi => (hb.cell (p := ⟨1, i, none⟩) hB).trans (h i hi)
/-- Eight words. -/
structure S8w where
  a : W32
  b : W32
  c : W32
  d : W32
  e : W32
  f : W32
  g : W32
  h : W32
def S8w.cells (s : S8w) : List Value := [.int .u32 (U s.a), .int .u32 (U s.b), .int .u32 (U s.c), .int .u32 (U s.d), .int .u32 (U s.e), .int .u32 (U s.f), .int .u32 (U s.g), .int .u32 (U s.h)]
def t1M (s : S8w) (k x : W32) : W32 := s.h + (rotr s.e 6 ^^^ rotr s.e 11 ^^^ rotr s.e 25) + ((s.e &&& s.f) ^^^ (~~~ s.e &&& s.g)) + k + x
def t2M (s : S8w) : W32 := (rotr s.a 2 ^^^ rotr s.a 13 ^^^ rotr s.a 22) + ((s.a &&& s.b) ^^^ (s.a &&& s.c) ^^^ (s.b &&& s.c))
def rndM (s : S8w) (k x : W32) : S8w := ⟨t1M s k x + t2M s, s.a, s.b, s.c, s.d + t1M s k x, s.e, s.f, s.g⟩
def rndsM (ws : List W32) (s : S8w) : Nat → S8w
  | 0 => s
  | t + 1 => rndM (rndsM ws s t) (kTab.getD t 0) (ws.getD t 0)
def addM (s r : S8w) : S8w := ⟨s.a + r.a, s.b + r.b, s.c + r.c, s.d + r.d, s.e + r.e, s.f + r.f, s.g + r.g, s.h + r.h⟩
def pieceM (s : S8w) (p : List UInt8) : S8w := addM s (rndsM (schedM p 48) s 64)
theorem S8w.one (s : S8w) : ∀ u ∈ s.cells, u.oneCell' = true := fun u hu => by
  simp [S8w.cells] at hu
  rcases hu with rfl | rfl | rfl | rfl | rfl | rfl | rfl | rfl <;> rfl
theorem load_words {w : World} {g o : Nat} {t : TypeId} {cs : Array Value} (h : Blk w g t cs) (s : S8w) (hc : ∀ j u, s.cells[j]? = some u → cs[o + j]? = some u) : (loadVar 144 ⟨g, o, none⟩).run Tryd.prog w = .ok (.agg s.cells.toArray) w :=
  run_loadVar_mid (P := Tryd.prog) w g o 144 s.cells _ (fun j v hv => by rw [h.cell]; exact hc j v hv) Tryd.underlying144 rfl (by kernel_rfl)
/-- A row of words of which the first are added. -/
def mixM (s r : S8w) (i : Nat) : S8w :=
  ⟨if 0 < i then s.a + r.a else s.a, if 1 < i then s.b + r.b else s.b, if 2 < i then s.c + r.c else s.c, if 3 < i then s.d + r.d else s.d, if 4 < i then s.e + r.e else s.e, if 5 < i then s.f + r.f else s.f, if 6 < i then s.g + r.g else s.g, if 7 < i then s.h + r.h else s.h⟩
theorem mixM_0 (s r : S8w) : mixM s r 0 = s := rfl
theorem mixM_8 (s r : S8w) : mixM s r 8 = addM s r := rfl
end Go.Proofs.YtloffgoenaomkaaDoor.Sha
