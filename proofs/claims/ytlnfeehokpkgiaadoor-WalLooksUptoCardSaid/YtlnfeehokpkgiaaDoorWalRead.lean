/- The journal's 'read': the transaction that begins at the next sector. -/
import Derived.Test.YtlnfeehokpkgiaaDoorWalPart
namespace Go.Proofs.YtlnfeehokpkgiaaDoor.Wal
open Go Go.RowKit Mem Pl Disk Crc _root_.Go.Proofs.YtlnfeehokpkgiaaDoor.Frame
/-- Bytes that are put together: a slice without room, or one of the call's own. -/
def TextS (w : World) (base : Nat) (A : Option Addr) (n c : Nat) (acc : List UInt8) : Prop := acc.length = n ∧ ((c = n ∧ BAt w A acc) ∨ Own w base 5 A n c acc)
theorem TextS.below {w w' : World} {base : Nat} {A : Option Addr} {n c : Nat} {acc : List UInt8} (h : TextS w base A n c acc) (hb : Below w.heap.size w w') : TextS w' base A n c acc :=
  ⟨h.1, h.2.imp (fun x => ⟨x.1, x.2.below hb⟩) fun x => x.below hb⟩
theorem TextS.bat {w : World} {base : Nat} {A : Option Addr} {n c : Nat} {acc : List UInt8} (h : TextS w base A n c acc) : BAt w A acc ∧ n ≤ c := by
  rcases h.2 with ⟨h1, h2⟩ | h1
  · exact ⟨h2, Nat.le_of_eq h1.symm⟩
  · exact ⟨h1.bat, h1.cap_le.1⟩
theorem run_append_own {w : World} {base n c : Nat} {A : Option Addr} {acc : List UInt8} (hl : acc.length = n) (hb : base ≤ w.heap.size) (B : Option Addr) (m d : Nat) (bs : List UInt8) (hB : BAt w B bs) (hm : bs.length = m) (hle : n + m ≤ 1000000) (ho : Own w base 5 A n c acc) :
    ∃ A' c' w', (Builtin.append_ #[32, 32] 32 #[.slice A n c, .slice B m d]).run Tryd.prog w = .ok (.slice A' (n + m) c') w' ∧ TextS w' base A' (n + m) c' (acc ++ bs) ∧ Below base w w' := by
  obtain ⟨A', c', w', hrun, h2, h3, _⟩ := run_append_bytes (P := Tryd.prog) (w := w) base 32 32 5 Pl.byteTy A n c acc ho B m d bs hB hm (n + m) rfl (by omega) hb
  exact ⟨A', c', w', hrun, ⟨by rw [List.length_append, hl, hm], .inr h2⟩, World_grown_below h3 hb ho.row_ge⟩
theorem run_append_text {w : World} {base n c : Nat} {A : Option Addr} {acc : List UInt8} (h : TextS w base A n c acc) (hb : base ≤ w.heap.size) (B : Option Addr) (m d : Nat) (bs : List UInt8) (hB : BAt w B bs) (hm : bs.length = m) (hle : n + m ≤ 1000000) :
    ∃ A' c' w', (Builtin.append_ #[32, 32] 32 #[.slice A n c, .slice B m d]).run Tryd.prog w = .ok (.slice A' (n + m) c') w' ∧ TextS w' base A' (n + m) c' (acc ++ bs) ∧ Below base w w' := by
  have own := run_append_own (base := base) (w := w) (A := A) (n := n) (c := c) (acc := acc) h.1 hb B m d bs hB hm hle
  rcases h.2 with ⟨hc, hA⟩ | ho
  · subst hc
    obtain ⟨i, hi, hz, hs, hby⟩ := Pl.elByte.info
    rcases Nat.eq_zero_or_pos m with hm0 | hm0
    · subst hm0
      have hbs : bs = [] := List.eq_nil_of_length_eq_zero hm
      subst hbs
      refine ⟨A, c, w, ?_, ⟨by simpa using h.1, .inl ⟨rfl, by simpa using hA⟩⟩, Below.refl _ _⟩
      cases A <;> cases B <;> simp [Builtin.append_, run_underlying Tryd.underlying32, sizeOf, typeInfo, hi, Builtin.lenOf, Builtin.firstCells, loadCells, loadCellsFrom, storeCells]
    · cases A with
      | none =>
        have h0 : c = 0 := by
          rcases Nat.eq_zero_or_pos c with h0 | h0
          · exact h0
          · obtain ⟨ad, e, _⟩ := hA (by rw [h.1]; exact h0)
            cases e
        subst h0
        have hz0 : acc = [] := List.eq_nil_of_length_eq_zero h.1
        subst hz0
        exact own (Own.nil_ _ _ _)
      | some b =>
        obtain ⟨a, rfl, hcs⟩ := hB (by omega)
        have hcl : ∀ (l : List UInt8) (ad : Addr), BAt w (some ad) l → ∀ j v, (l.map B8)[j]? = some v → w.cell? (ad.add j) = some v := fun l ad hl j v hv => by
          have hj : j < l.length := by have := (List.getElem?_eq_some_iff.1 hv).1; simpa using this
          obtain ⟨ad', e, hc⟩ := hl (by omega)
          obtain rfl := Option.some.inj e
          rw [hc j hj]
          rw [List.getElem?_map, List.getElem?_eq_getElem hj] at hv
          rw [List.getD_eq_getElem?_getD, List.getElem?_eq_getElem hj]
          simpa [B8] using hv
        have hr := run_append_grow (P := Tryd.prog) w 32 32 5 i (.int .u8 0) Tryd.underlying32 hi hz b c c (acc.map B8) (by simp [hs, h.1]) (hcl acc b hA) a m d (bs.map B8) (by simp [hs, hm]) (hcl bs a hB) (by omega) (by omega) (growslice_fits (by omega) (by rw [hby]; omega))
        have hge := grownCap_ge w (c + m) c 5
        have hcm : grownCap w (c + m) c 5 ≤ maxLen := grownCap_le_maxLen w (c + m) c 5 (by unfold maxLen; omega)
        refine ⟨_, _, _, hr, ⟨by rw [List.length_append, h.1, hm], .inr ⟨by simp [h.1, hm], .inr ⟨w.heap.size, _, _, rfl, hb, heap_alloc_new w.drew _, hge, hcm, ?_, ?_⟩⟩⟩, ?_⟩
        · simp only [Value.cells, zeroCells8]
          simp [h.1, hm]
          omega
        · simp only [Value.cells, zeroCells8]
          simp [List.take_append, h.1, hm]
          exact List.take_of_length_le (by simp [h.1])
        · exact (below_drewN (Below.refl _ _) 1).trans ((Below.refl base w.drew).alloc hb _)
  · exact own ho
/-- What 'read' answers. -/
def RetRd (w : World) (o : Option (Tx × Nat)) (e : Ending) (w' : World) : Prop :=
  Below w.heap.size w w' ∧
    ((o = none ∧ e = .returned (.tuple #[.slice none 0 0, .int .i64 0, .int .i64 0])) ∨
     ∃ tx k v, o = some (tx, k) ∧ e = .returned (.tuple #[v, .int .i64 (k : Int), .int .i64 0]) ∧ TxAt w' (New w w') tx v)
theorem decGo_len : ∀ (n : Nat) (b : List UInt8) (acc tx : Tx), decGo n b acc = some tx → totM tx + 2 * tx.length = totM acc + 2 * acc.length + b.length
  | 0, b, acc, tx, h => by
    unfold decGo at h
    split at h
    · rename_i hb
      rw [← Option.some.inj h, hb]
      simp
    · exact nomatch h
  | n + 1, b, acc, tx, h => by
    unfold decGo at h
    split at h
    · exact nomatch h
    · rename_i h2
      split at h
      · exact nomatch h
      · rename_i h3
        have ih := decGo_len n _ _ _ h
        have e : totM (acc ++ [(b.drop 2).take (be (b.take 2))]) = totM acc + be (b.take 2) := by
          unfold totM
          rw [List.map_append, List.sum_append]
          simp only [List.map_cons, List.map_nil, List.sum_cons, List.sum_nil, List.length_take]
          omega
        rw [e, List.length_append, List.length_drop] at ih
        rw [List.length_drop] at ih h3
        simp only [List.length_cons, List.length_nil] at ih
        omega
theorem decM_len {b : List UInt8} {tx : Tx} (h : decM b = some tx) : totM tx + 2 * tx.length ≤ b.length := by
  cases b with
  | nil => exact nomatch h
  | cons c b =>
    have h1 := decGo_len _ _ _ _ (show decGo c.toNat b [] = some tx from h)
    simp [totM] at h1
    unfold totM
    simp
    omega
def ReadR (_w w1 : World) (f : Nat → List UInt8) (N ep num nx s many : Nat) (b0 : List UInt8) (tv iv : Value) (wr : World) : Prop :=
  ∃ (i : Nat) (A : Option Addr) (n c : Nat) (acc : List UInt8), 1 ≤ i ∧ i ≤ many ∧ iv = .int .i64 (i : Int) ∧ tv = .slice A n c ∧ n ≤ 45 * i ∧ TextS wr w1.heap.size A n c acc ∧
    textM f N ep num nx s many (many - 1) 1 b0 = textM f N ep num nx s many (many - i) i acc ∧ Below w1.heap.size w1 wr
theorem firstM_none {f : Nat → List UInt8} {N ep num nx : Nat} (h : firstM f N ep num nx = none) : readM f N ep num nx = none := by
  unfold readM
  rw [h]
theorem firstM_at (f : Nat → List UInt8) (N ep num nx : Nat) : firstM f N ep num nx = match partAt f N ep num nx with
  | some p => if p.index = 0 ∧ p.many ≠ 0 then some p else none
  | none => none := by
  unfold firstM partAt
  split
  · rfl
  · rfl
theorem textM_at (f : Nat → List UInt8) (N ep num nx s many k i : Nat) (acc : List UInt8) : textM f N ep num nx s many (k + 1) i acc = match partAt f N ep num (nx + i) with
  | some x => if x.sess = s ∧ x.index = i ∧ x.many = many then textM f N ep num nx s many k (i + 1) (acc ++ x.b) else none
  | none => none := by
  rw [textM]
  unfold partAt
  split
  · rfl
  · rfl
set_option maxRecDepth 100000 in
set_option maxHeartbeats 8000000 in
theorem read_on {B : Nat} {w : World} {F : Nat → Prop} {a : Nat} {pm : PM} {n dev N : Nat} {H : List (List UInt8)} {ws : Ws} {g : Nat} {m : WM} (hst : St B w F a pm n) (hd : Disk pm dev N H ws) (hn : n ≤ 1000000000) (hon : pm.off = false) (hw : WalB w g a dev N m) (hnx : m.next ≤ 1000000)
    (ht : Tab w) (hgc : 0 < w.heap.size) :
    Calls Tryd.prog 37 #[.pointer (some ⟨g, 0, none⟩)] w (RetRd w (readM (virt H ws) N m.ep m.num m.next)) := by
  have HST := Lib.hid hst
  have HD := Lib.hid hd
  have HON := Lib.hid hon
  have HW := Lib.hid hw
  have HT := Lib.hid ht
  obtain ⟨c0, c1, c2, c3, c4, c5, c6⟩ := hw.cells
  have HP0 := Lib.hid (part_on hst hd hn hon hw m.next ht hgc)
  obtain ⟨f, hf⟩ : ∃ f, virt H ws = f := ⟨_, rfl⟩
  rw [hf] at HP0 ⊢
  obtain ⟨o, ho⟩ : ∃ o, readM f N m.ep m.num m.next = o := ⟨_, rfl⟩
  rw [ho]
  have HO := Lib.hid ho
  have HF := Lib.hid hf
  clear hst hd hon hw ht hf ho c0 c1 c2 c3 c4 c6
  go_enter Tryd.func37, Tryd.ntmps37
  go_wp2_with fail
  refine HP0.out.mono ?_
  rintro e w1 ⟨hb1, ⟨hno, rfl⟩ | ⟨p, A, L, hsome, rfl, hpl, hbat⟩⟩
  · obtain rfl : o = none := by rw [← HO.out]; exact firstM_none (by rw [firstM_at, hno])
    have HB1 := Lib.hid hb1
    clear hb1 hno HP0 HO c5
    unfold partV
    go_wp2_with fail
    go_ret3
    exact ⟨HB1.out.trans ((below_al' _).mono HB1.out.size), .inl ⟨rfl, rfl⟩⟩
  · obtain ⟨ps, pi, pmn, pb⟩ := p
    have hbd : pi < 256 ∧ pmn < 256 ∧ pb.length ≤ 45 := by
      unfold partAt at hsome
      split at hsome
      · obtain ⟨_, _, _, h1, h2, h3⟩ := partM_ep hsome
        exact ⟨h1, h2, h3⟩
      · exact nomatch hsome
    obtain ⟨hpi, hpm, hpb⟩ := hbd
    have HFM : Hid (firstM f N m.ep m.num m.next = if pi = 0 ∧ pmn ≠ 0 then some ⟨ps, pi, pmn, pb⟩ else none) := Lib.hid (by rw [firstM_at, hsome])
    have HB1 := Lib.hid hb1
    have hl2 : L ≤ 45 := by rw [← hpl]; exact hpb
    have HPL : Hid (pb.length = L) := Lib.hid hpl
    have HBAT : Hid (BAt w1 A pb) := Lib.hid hbat
    clear hsome hb1 HP0 hpl hbat hpb
    unfold partV
    dsimp only
    by_cases hi0 : pi = 0
    · subst hi0
      by_cases hm0 : pmn = 0
      · obtain rfl : o = none := by rw [← HO.out]; exact firstM_none (by rw [HFM.out, if_neg fun h => h.2 hm0])
        subst hm0
        clear HFM HO c5
        go_wp2_with fail
        go_ret3
        exact ⟨HB1.out.trans ((below_al' _).mono HB1.out.size), .inl ⟨rfl, rfl⟩⟩
      · have hm1 : ((pmn : Int) == 0) = false := by simp; omega
        have HR : Hid (o = match textM f N m.ep m.num m.next ps pmn (pmn - 1) 1 pb with
            | some t => (match decM t with
              | some tx => if longM tx then none else some (tx, pmn)
              | none => none)
            | none => none) := Lib.hid (by
          rw [← HO.out]
          unfold readM
          rw [HFM.out, if_pos ⟨rfl, hm0⟩]
          dsimp only
          cases textM f N m.ep m.num m.next ps pmn (pmn - 1) 1 pb with
          | none => rfl
          | some t => cases hd : decM t <;> simp only [hd])
        have hk2 := Blk.new w1 121 #[.int .u64 (ps : Int), .int .i64 0, .int .i64 (pmn : Int), .slice A L L]
        have hb2 := below_al' (w := w1) (.cells #[.int .u64 (ps : Int), .int .i64 0, .int .i64 (pmn : Int), .slice A L L] 121)
        have HK2 := Lib.hid hk2
        have HB2 := Lib.hid (HB1.out.trans (hb2.mono HB1.out.size))
        have HTX2 : Hid (TextS (w1.alloc (.cells #[.int .u64 (ps : Int), .int .i64 0, .int .i64 (pmn : Int), .slice A L L] 121)) (w1.alloc (.cells #[.int .u64 (ps : Int), .int .i64 0, .int .i64 (pmn : Int), .slice A L L] 121)).heap.size A L L pb) := Lib.hid ⟨HPL.out, .inl ⟨rfl, HBAT.out.below hb2⟩⟩
        have hlt12 : w1.heap.size < (w1.alloc (.cells #[.int .u64 (ps : Int), .int .i64 0, .int .i64 (pmn : Int), .slice A L L] 121)).heap.size := by simp
        clear hk2 hb2 HFM HO c5
        go_wp2_with fail
        generalize w1.heap.size = fb at *
        generalize w1.alloc (.cells #[.int .u64 (ps : Int), .int .i64 0, .int .i64 (pmn : Int), .slice A L L] 121) = w2 at *
        go_loopw [8, 9] (fun tv iv wr => ReadR w w2 f N m.ep m.num m.next ps pmn pb tv iv wr) (fun _ iv _ => pmn - (intOf iv).toNat)
        case atStart => exact ⟨1, A, L, L, pb, Nat.le_refl _, by omega, rfl, rfl, by omega, HTX2.out, rfl, Below.refl _ _⟩
        case round =>
          obtain ⟨i, AT, nT, cT, acc, hi1, hi2, rfl, rfl, hnT, htx, hgo, hbw⟩ := hrel
          have HTX := Lib.hid htx
          have HGO := Lib.hid hgo
          have HBW := Lib.hid hbw
          have HBWW := Lib.hid (HB2.out.trans (hbw.mono HB2.out.size))
          have hkw := HK2.out.below_ hbw
          have k0 : wr.cell? ⟨fb, 0, none⟩ = some (.int .u64 (ps : Int)) := hkw.cell 0
          have k2 : wr.cell? ⟨fb, 2, none⟩ = some (.int .i64 (pmn : Int)) := hkw.cell 2
          have HKW := Lib.hid hkw
          clear htx hgo hbw HTX2 hkw
          by_cases hlt : i < pmn
          · have hltI : (i : Int) < (pmn : Int) := by omega
            obtain ⟨p, hp⟩ : ∃ p, pmn - i = p + 1 := ⟨pmn - i - 1, by omega⟩
            obtain ⟨q, hq⟩ : ∃ q, m.next + i = q := ⟨_, rfl⟩
            have hqI : (m.next : Int) + (i : Int) = (q : Int) := by omega
            have c5 := (HW.out.below HBWW.out).cells.2.2.2.2.2.1
            have hp2 := part_on (HST.out.below HBWW.out) HD.out hn HON.out (HW.out.below HBWW.out) q (HT.out.below HBWW.out hgc) (Nat.lt_of_lt_of_le hgc HBWW.out.size)
            rw [HF.out] at hp2
            have HPQ := Lib.hid hp2
            have HNX := Lib.hid (textM_at f N m.ep m.num m.next ps pmn p i acc)
            rw [hq] at HNX
            have HPP := Lib.hid hp
            clear hp2 hq hp
            go_wp2_with fail
            refine HPQ.out.mono ?_
            rintro e w3 ⟨hb3, ⟨hno, rfl⟩ | ⟨x, AX, LX, hsome, rfl, hxl, hxb⟩⟩
            · obtain rfl : o = none := by rw [HR.out, HGO.out, HPP.out, HNX.out, hno]
              have HB3 := Lib.hid (HBWW.out.trans (hb3.mono HBWW.out.size))
              clear hb3 hno HPQ HNX HR HGO c5 k2
              unfold partV
              go_wp2_with fail
              go_ret3
              exact ⟨HB3.out.trans ((below_al' _).mono HB3.out.size), .inl ⟨rfl, rfl⟩⟩
            · obtain ⟨xs, xi, xm, xb⟩ := x
              have hbx : xi < 256 ∧ xm < 256 ∧ xb.length ≤ 45 := by
                unfold partAt at hsome
                split at hsome
                · obtain ⟨_, _, _, h1, h2, h3⟩ := partM_ep hsome
                  exact ⟨h1, h2, h3⟩
                · exact nomatch hsome
              obtain ⟨hxi, hxm, hxb45⟩ := hbx
              have hxl2 : LX ≤ 45 := by rw [← hxl]; exact hxb45
              have HXL : Hid (xb.length = LX) := Lib.hid hxl
              have HXB : Hid (BAt w3 AX xb) := Lib.hid hxb
              have HB3 := Lib.hid (HBWW.out.trans (hb3.mono HBWW.out.size))
              have HB32 := Lib.hid hb3
              have l0 : w3.cell? ⟨fb, 0, none⟩ = some (.int .u64 (ps : Int)) := (HKW.out.below_ hb3).cell 0
              have l2 : w3.cell? ⟨fb, 2, none⟩ = some (.int .i64 (pmn : Int)) := (HKW.out.below_ hb3).cell 2
              have hfl3 : fb < w3.heap.size := Nat.lt_of_lt_of_le HKW.out.lt hb3.size
              have HN2 : Hid (textM f N m.ep m.num m.next ps pmn (p + 1) i acc = if xs = ps ∧ xi = i ∧ xm = pmn then textM f N m.ep m.num m.next ps pmn p (i + 1) (acc ++ xb) else none) := Lib.hid (by rw [HNX.out, hsome])
              clear hb3 hsome HPQ HNX hxl hxb hxb45 c5 k0 k2
              unfold partV
              dsimp only
              have hba := below_al' (w := w3) (.cells #[.int .u64 (xs : Int), .int .i64 (xi : Int), .int .i64 (xm : Int), .slice AX LX LX] 121)
              have m0 := (hba.cell (p := ⟨fb, 0, none⟩) hfl3).trans l0
              have m2 := (hba.cell (p := ⟨fb, 2, none⟩) hfl3).trans l2
              have HBA := Lib.hid hba
              clear hba l0 l2
              by_cases hs : ps = xs
              · subst hs
                by_cases hi : i = xi
                · subst hi
                  by_cases hm : pmn = xm
                  · subst hm
                    obtain ⟨A', c', w5, hrun, hts, hb5⟩ := run_append_text ((HTX.out.below HB32.out).below HBA.out) (Nat.le_trans HBW.out.size (Nat.le_trans HB32.out.size HBA.out.size)) AX LX LX xb (HXB.out.below HBA.out) HXL.out (by omega)
                    have HRUN := Lib.hid hrun
                    have HTS := Lib.hid hts
                    have HB5 := Lib.hid hb5
                    have HG2 : Hid (textM f N m.ep m.num m.next ps pmn (pmn - 1) 1 pb = textM f N m.ep m.num m.next ps pmn (pmn - (i + 1)) (i + 1) (acc ++ xb)) := Lib.hid (by
                      rw [HGO.out, HPP.out, HN2.out, if_pos ⟨rfl, rfl, rfl⟩, show pmn - (i + 1) = p by have := HPP.out; omega])
                    clear hrun hts hb5
                    go_wp2_with
                      (at_builtin
                       refine Lib.wpList_append_run _ rfl (.tmp 88) (.tmp 90) _ _ rfl _ _ rfl rfl _ _ HRUN.out ?_)
                    go_roundw
                    case rel => exact ⟨_, _, _, _, _, ⟨i + 1, A', _, c', _, by omega, by omega, by simp, rfl, by omega, HTS.out, HG2.out, ((HBW.out.trans (HB32.out.mono HBW.out.size)).trans (HBA.out.mono (Nat.le_trans HBW.out.size HB32.out.size))).trans HB5.out⟩, rfl, rfl, rfl, rfl, rfl⟩
                    case measure => simp [intOf]; omega
                  · obtain rfl : o = none := by rw [HR.out, HGO.out, HPP.out, HN2.out, if_neg fun h => hm h.2.2.symm]
                    have hne : ((xm : Int) != (pmn : Int)) = true := by simp; omega
                    clear HN2 HR HGO hm
                    go_wp2_with fail
                    go_ret3
                    exact ⟨HB3.out.trans ((below_al' _).mono HB3.out.size), .inl ⟨rfl, rfl⟩⟩
                · obtain rfl : o = none := by rw [HR.out, HGO.out, HPP.out, HN2.out, if_neg fun h => hi h.2.1.symm]
                  have hne : ((xi : Int) != (i : Int)) = true := by simp; omega
                  clear HN2 HR HGO hi
                  go_wp2_with fail
                  go_ret3
                  exact ⟨HB3.out.trans ((below_al' _).mono HB3.out.size), .inl ⟨rfl, rfl⟩⟩
              · obtain rfl : o = none := by rw [HR.out, HGO.out, HPP.out, HN2.out, if_neg fun h => hs h.1.symm]
                have hne : ((xs : Int) != (ps : Int)) = true := by simp; omega
                clear HN2 HR HGO hs
                go_wp2_with fail
                go_ret3
                exact ⟨HB3.out.trans ((below_al' _).mono HB3.out.size), .inl ⟨rfl, rfl⟩⟩
          · obtain rfl : i = pmn := by omega
            have HTM : Hid (textM f N m.ep m.num m.next ps i (i - 1) 1 pb = some acc) := Lib.hid (by rw [HGO.out, Nat.sub_self]; rfl)
            have HDC := Lib.hid (decode_any wr AT acc nT cT HTX.out.1 HTX.out.bat.2 (by omega) HTX.out.bat.1)
            cases hd : decM acc with
            | none =>
              obtain rfl : o = none := by rw [HR.out, HTM.out]; simp only [hd]
              have HDD := Lib.hid hd
              clear HR HGO HTM hd
              go_wp2_with fail
              refine HDC.out.mono ?_
              rintro e w3 ⟨v, rfl, _, hb3⟩
              rw [HDD.out]
              simp only [Option.isSome_none]
              have HB3 := Lib.hid (HBWW.out.trans (hb3.mono HBWW.out.size))
              clear hb3
              go_wp2_with fail
              go_ret3
              exact ⟨HB3.out, .inl ⟨rfl, rfl⟩⟩
            | some tx =>
              have HDD := Lib.hid hd
              have HOX : Hid (o = if longM tx then none else some (tx, i)) := Lib.hid (by rw [HR.out, HTM.out]; simp only [hd])
              have hlen := decM_len hd
              have hla : acc.length = nT := HTX.out.1
              clear HR HGO HTM hd
              go_wp2_with fail
              refine HDC.out.mono ?_
              rintro e w3 ⟨v, rfl, htxs, hb3⟩
              have htx3 := htxs tx HDD.out
              rw [HDD.out]
              simp only [Option.isSome_some]
              obtain ⟨A3, c3, rfl, hrows⟩ := htx3.rows
              have HTX3 := Lib.hid htx3
              have HB3 := Lib.hid (HBWW.out.trans (hb3.mono HBWW.out.size))
              have HZ3 := Lib.hid HBWW.out.size
              have HLG := Lib.hid (long_any w3 A3 tx.length c3 tx hrows rfl (by omega) (by omega))
              have l2 : w3.cell? ⟨fb, 2, none⟩ = some (.int .i64 (i : Int)) := (HKW.out.below_ hb3).cell 2
              clear hb3 htxs htx3 hrows hlen hla HDC k0 k2
              cases hlg : longM tx with
              | true =>
                obtain rfl : o = none := by rw [HOX.out, hlg]; rfl
                rw [hlg] at HLG
                clear hlg HOX
                go_wp2_with fail
                refine HLG.out.mono ?_
                rintro e _ ⟨rfl, rfl⟩
                go_wp2_with fail
                go_ret3
                exact ⟨HB3.out, .inl ⟨rfl, rfl⟩⟩
              | false =>
                obtain rfl : o = some (tx, i) := by rw [HOX.out, hlg]; rfl
                rw [hlg] at HLG
                clear hlg HOX
                go_wp2_with fail
                refine HLG.out.mono ?_
                rintro e _ ⟨rfl, rfl⟩
                go_wp2_with fail
                refine Ord.region_ord [] [0, 1, 2, 3, 4, 5] (by kernel_rfl) (by kernel_rfl) (by kernel_rfl) (by kernel_rfl) (Ord.ord_all [_, _, _, _, _, _] rfl (by kernel_rfl) ?_)
                have l3 : w3.drew.cell? ⟨fb, 2, none⟩ = some (.int .i64 (i : Int)) := l2
                go_wp2_with fail
                refine Ord.nx_end ?_
                go_wp2_with fail
                go_ret3
                exact ⟨HB3.out.drew, .inr ⟨tx, i, _, rfl, rfl, (HTX3.out.below (below_drewN (Below.refl _ _) 1)).mono fun g hlt hg => ⟨Nat.le_trans HZ3.out hg.1, hlt⟩⟩⟩
    · obtain rfl : o = none := by rw [← HO.out]; exact firstM_none (by rw [HFM.out, if_neg fun h => hi0 h.1])
      have hi1 : ((pi : Int) != 0) = true := by simp; omega
      clear HFM HO c5 hi0
      go_wp2_with fail
      go_ret3
      exact ⟨HB1.out.trans ((below_al' _).mono HB1.out.size), .inl ⟨rfl, rfl⟩⟩
end Go.Proofs.YtlnfeehokpkgiaaDoor.Wal
