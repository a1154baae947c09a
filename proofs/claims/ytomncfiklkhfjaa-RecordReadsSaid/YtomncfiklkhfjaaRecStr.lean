/- Strings as bytes: '[]byte(s)', 'append(b, s...)', a load of a whole row, an array's cells as a slice. Over any program. No program's function is walked here. -/
import Derived.Test.YtomncfiklkhfjaaRecMath
import Derived.Test.YtomncfiklkhfjaaBytes
import Derived.Lib.AppendStr
import Derived.Laws.IdiomStrings
import Derived.Deep.MidRow
namespace Go.Proofs.Ytomncfiklkhfjaa.Rec
open Go.RowKit Mem
section
variable {P : Program} {w : World}
theorem strCells_S8 (bs : List UInt8) : Go.Lib.strCells (S8 bs) = bs.map B8 := by
  unfold Go.Lib.strCells
  rw [S8_list]
  rfl
theorem row_S8 (bs : List UInt8) (c k : Nat) (hk : k < bs.length) : (bytesRow (S8 bs) c)[k]? = some (.int .u8 (V8 (bs.getD k 0))) := by
  unfold bytesRow
  rw [Array.getElem?_append_left (by simpa [S8] using hk)]
  simp [S8, V8, List.getD, hk]
theorem wpList_str_bytes {ops : Array Oper} {rest : List Oper} {o : Oper} {a : Act} {Q : Exit → Act → World → Prop} (hgd : o.guard = none) (x : Operand) (ts t e : TypeId)
    (ho : o.op = .convert ts t x) (hs : P.underlying ts = some .string) (T : ByteTy P t e) (bs : List UInt8) (hx : a.eval x = .string (S8 bs)) (g : Nat) (hg : w.heap.size = g)
    (h : ∀ c w', BAt w' (some ⟨g, 0, none⟩) bs → Below g w w' → wpList P ops Q rest (a.put o.dst (.slice (some ⟨g, 0, none⟩) bs.length c)) w') : wpList P ops Q (o :: rest) a w := by
  subst hg
  refine wpList_plain hgd fun K hK => ?_
  have hr := run_bytes_of_string (P := P) w ts t e (S8 bs) hs T.ht T.he
  rw [S8_size] at hr
  unfold Oper.wp execOp
  simp only [ho, hx, hr, Sem.run_bind, Sem.run_pure, Result.andThen_ok]
  refine hK _ _ (h _ _ ?_ ?_)
  · refine BAt.of_block (heap_alloc_new w.drew _) 0 fun k hk => ?_
    rw [Nat.zero_add]
    exact row_S8 bs _ k hk
  · exact ((Below.refl _ _).drew).alloc (Nat.le_refl _) _
theorem wpList_append_str {ops : Array Oper} {rest : List Oper} {o : Oper} {a : Act} {Q : Exit → Act → World → Prop} (hgd : o.guard = none) (s x : Operand) (t ts : TypeId)
    (ho : o.op = .call { callee := .builtin .append, args := #[s, x], argTypes := #[t, ts] }) (hts : P.underlying ts = some .string) (base : Nat) (e : TypeId) (T : ByteTy P t e)
    (A : Option Addr) (n c : Nat) (xs : List UInt8) (hs : a.eval s = .slice A n c) (hown : Own w base e A n c xs)
    (bs : List UInt8) (hx : a.eval x = .string (S8 bs)) (N : Nat) (hN : n + bs.length = N) (hbytes : N ≤ 140737488355328) (hbase : base ≤ w.heap.size)
    (h : ∀ A' c' w', Own w' base e A' N c' (xs ++ bs) → w.grownBy w' (Value.slice A n c).ownBlock → Below base w w' → wpList P ops Q rest (a.put o.dst (.slice A' N c')) w') : wpList P ops Q (o :: rest) a w := by
  subst hN
  refine wpList_plain hgd fun K hK => ?_
  obtain ⟨i, hi, hz, hsz, hby⟩ := T.info
  obtain ⟨v', w', hrun, h2, h3, _⟩ := Go.Lib.run_append_own_string (P := P) (w := w) base t ts o.type e i T.ht hts hi hz hsz hby (.slice A n c) n (xs.map B8) hown (S8 bs)
    (by rw [S8_size]; unfold maxLen; omega) (by rw [S8_size]; exact hbytes) hbase
  rw [S8_size] at h2
  have hA : ∃ A' c', v' = .slice A' (n + bs.length) c' := by
    rcases h2.2 with ⟨h, h0⟩ | ⟨g, cap, cur, h, _⟩
    · exact ⟨none, 0, by rw [h, h0]⟩
    · exact ⟨_, _, h⟩
  obtain ⟨A', c', rfl⟩ := hA
  have hO : Own w' base e A' (n + bs.length) c' (xs ++ bs) := by unfold Own; rw [List.map_append, ← strCells_S8]; exact h2
  unfold Oper.wp execOp
  simp only [ho, resolve, invoke, builtin, Sem.run_bind, Sem.run_pure, Result.andThen_ok, List.map_toArray, List.map_cons, List.map_nil, hs, hx, hrun]
  exact hK _ _ (h _ _ _ hO h3 (World_grown_below h3 hbase hown.row_ge))
/-- 'row[:]' of an array of N bytes in memory. -/
theorem run_cutAll (t e : TypeId) (N : Nat) (ht : P.underlying t = some (.array N e)) (he : (P.info? e).map (fun i => (i.zero, i.size, i.bytes)) = some (some (.int .u8 0), 1, 1)) (g o : Nat) (hN : 0 < N) (W : World) :
    (Instr.sliceAt t (.pointer (some ⟨g, o, none⟩)) none none none).run P W = .ok (.slice (some ⟨g, o, none⟩) N N) W := by
  obtain ⟨i, hi, hz, hs, hby⟩ := info_parts he
  simp [Instr.sliceAt, Instr.sureAddr, run_underlying ht, Instr.sliceBounds, sizeOf, typeInfo, hi, hs, add_off, Nat.ne_of_gt hN]
end
end Go.Proofs.Ytomncfiklkhfjaa.Rec
