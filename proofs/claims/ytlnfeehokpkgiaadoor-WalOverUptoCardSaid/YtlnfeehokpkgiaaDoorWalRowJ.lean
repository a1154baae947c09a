/- Opening the argument of the law 'WalOver': a row of sectors written by hand. -/
import Derived.Test.YtlnfeehokpkgiaaDoorFold24
import Derived.Test.YtlnfeehokpkgiaaDoorWalLawOver
namespace Go.Proofs.YtlnfeehokpkgiaaDoor.Wal
open Go.ChangeShapes Go.WideShapes Go.ChangeAt Go.RowKit Mem Law Pl Crc
variable {H : Type} {enc : TypeId × Value → H} {P : Program}
theorem cellsJunk : Tryd.prog.cellsOf 34 = 2 := by kernel_rfl
/-- A cell that is a slice of bytes. -/
theorem cell_bytesN {W : World} {t e : TypeId} {fuel : Nat} {cs : List Value} {x : DataW H × List MemPlace} (ht : P.underlying t = some (.slice e)) (he : P.underlying e = some (.int .u8)) (hc : P.cellsOf e = 1)
    (h : DataW.trod enc P W 0 (fun _ => true) true fuel t cs = some x) :
    ∃ (B : Option Addr) (bs : List UInt8) (c : Nat), cs = [.slice B bs.length c] ∧ BAt W B bs ∧ bs.length ≤ Rows.uptoBulk x.1 ∧ (B = none → c = 0) := by
  rcases open_ints ht he hc h with ⟨rfl, rfl⟩ | ⟨a, n, cap, zs, rfl, _, hl, hm, hz, rfl, hcell, hwz⟩
  · exact ⟨none, [], 0, rfl, BAt.nil_ _ _, by simp, fun _ => rfl⟩
  · simp only [if_true] at hz
    have hlen : ((zs.take n).map fun z => UInt8.ofNat z.toNat).length = n := by simp; omega
    refine ⟨some a, (zs.take n).map fun z => UInt8.ofNat z.toNat, cap, by rw [hlen], fun _ => ⟨a, rfl, fun k hk => ?_⟩, ?_, fun h => by cases h⟩
    · rw [hlen] at hk
      rw [hcell k (by omega)]
      have hkz : k < zs.length := by omega
      have hw := wf_u8 (hwz zs[k] (List.getElem_mem hkz))
      have hv := V8_ofInt zs[k] hw.1 hw.2
      simp [List.getD, hkz, hk]
      exact hv
    · rw [hlen]
      have h1 := bulk_length (lits (H := H) .u8 (zs.take n))
      rw [show (lits (H := H) .u8 (zs.take n)).length = (zs.take n).length from by simp [lits], List.length_take] at h1
      simp only [Rows.uptoBulk]
      omega
set_option maxRecDepth 100000 in
theorem cell_junk {W : World} {fuel : Nat} {cs : List Value} {x : DataW H × List MemPlace} (h : DataW.trod enc Tryd.prog W 0 (fun _ => true) true fuel 34 cs = some x) :
    ∃ o : JunkW, cs = [.int .i64 o.at_, .slice o.A o.n o.c] ∧ JunkOk W o := by
  obtain ⟨xs, k, _, hx, hl, hlen, hf⟩ := DataW.trod_struct Tryd.underlying34 h
  rw [cellsJunk] at hl
  match xs, hlen with
  | [y0, y1], _ =>
    have g0 : DataW.trod enc Tryd.prog W 0 (fun _ => true) true k 3 ((cs.drop 0).take (Tryd.prog.cellsOf 3)) = some y0 := hf 0 _ rfl
    have g1 : DataW.trod enc Tryd.prog W 0 (fun _ => true) true k 32 ((cs.drop 1).take (Tryd.prog.cellsOf 32)) = some y1 := hf 1 _ rfl
    rw [cellsI64] at g0
    rw [cellsBS] at g1
    obtain ⟨a0, e0, _, w0⟩ := DataW.trod_int Tryd.underlying3 g0
    obtain ⟨B, bs, c, e1, hB, _, hN⟩ := cell_bytesN Tryd.underlying32 Tryd.underlying5 cellsU8 g1
    match cs, hl with
    | [v0, v1], _ =>
      simp at e0 e1
      exact ⟨⟨a0, B, bs.length, c, bs⟩, by rw [e0, e1], wf_i64 w0, hB, rfl, hN⟩
set_option maxRecDepth 100000 in
theorem open_junks {W : World} {r : Reach} {b0 : Nat} {v : Value} {d : DataW H} {ps : List MemPlace} (hval : Value.okWide Tryd.prog W r b0 22 v) (h : DataW.Trod enc Tryd.prog W 0 (fun _ => true) true 22 v d ps) :
    ∃ (A : Option Addr) (n cap : Nat) (os : List JunkW), v = .slice A n cap ∧ JunksAt W A os ∧ os.length = n ∧ n ≤ Rows.uptoBulk d ∧ n ≤ cap := by
  obtain ⟨A, n, cap, rfl⟩ := okWide_slice Tryd.underlying22 hval
  obtain ⟨fuel, hf⟩ := h
  rcases DataW.trod_slice Tryd.underlying22 hf with ⟨hcs, hx⟩ | ⟨a, len, cap', elems, rest, m, _, hcs, hx, _, hl, _, hlen, hel, _, _⟩
  · simp [Value.cells] at hcs
    obtain ⟨rfl, rfl, rfl⟩ := hcs
    exact ⟨none, 0, 0, [], rfl, fun i o h => by simp at h, rfl, Nat.zero_le _, Nat.le_refl _⟩
  · simp [Value.cells] at hcs
    obtain ⟨rfl, rfl, rfl⟩ := hcs
    simp only [Prod.mk.injEq] at hx
    have hbulk : Rows.uptoBulk d = Rows.uptoBulkAll (elems.map (·.1)) + Rows.uptoBulkAll (rest.map (·.1)) + 1 := by rw [hx.1]; simp only [Rows.uptoBulk]
    obtain ⟨l, hll, hq⟩ := list_choose (α := JunkW) n (fun i o => JunkAt W (a.add (i * 2)) o ∧ JunkOk W o) fun i hi => by
      have h1 := hel i hi
      rw [List.getElem?_eq_getElem (by omega), cellsJunk, Option.bind_eq_some_iff] at h1
      obtain ⟨cs', hcs', hy⟩ := h1
      obtain ⟨o, rfl, hoL⟩ := cell_junk hy
      have hc := (World.cells?_some hcs').2.2
      have c0 := hc 0 (by decide)
      rw [show (a.add (i * 2)).add 0 = a.add (i * 2) from rfl] at c0
      exact ⟨o, ⟨c0, hc 1 (by decide)⟩, hoL⟩
    refine ⟨some a, n, cap, l, rfl, fun i o ho => ?_, hll, ?_, hl⟩
    · obtain ⟨hi, he⟩ := List.getElem?_eq_some_iff.1 ho
      have g := hq i hi
      rw [he] at g
      exact ⟨a, rfl, g.1, g.2⟩
    · have h1 := bulk_length (elems.map (·.1))
      rw [List.length_map] at h1
      omega
end Go.Proofs.YtlnfeehokpkgiaaDoor.Wal
