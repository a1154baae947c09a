/- The desk's 'append'. -/
import Derived.Test.YtlnfeehokpkgiaaDoorFold28
namespace Go.Proofs.YtlnfeehokpkgiaaDoor.Wal
open Go Go.RowKit Mem Pl Disk Crc _root_.Go.Proofs.YtlnfeehokpkgiaaDoor.Frame
theorem TxsAt.one {w : World} {J : Nat → Prop} {txs : List Tx} {vs : List Value} (hl : vs.length = txs.length) (h : ∀ (k : Nat) (tx : Tx), txs[k]? = some tx → ∃ u, vs[k]? = some u ∧ TxAt w J tx u) : ∀ u ∈ vs, u.oneCell' = true := fun u hu => by
  obtain ⟨k, hk⟩ := List.getElem?_of_mem hu
  obtain ⟨hk1, _⟩ := List.getElem?_eq_some_iff.1 hk
  obtain ⟨u', hu', ht⟩ := h k _ (List.getElem?_eq_getElem (by omega))
  obtain ⟨A, c, rfl, _⟩ := ht.rows
  rw [hk] at hu'
  cases hu'
  rfl
/-- What the copying finds. -/
def ApL (w w5 : World) (nt : Nat) (tx : Tx) (ov cv iv : Value) (wr : World) : Prop :=
  ∃ (i : Nat) (JV JC : Nat → Prop) (gs hs : Nat → Nat) (vs us : List Value), iv = .int .i64 (i : Int) ∧ i ≤ nt ∧ OwnTx wr JV w5.heap.size gs (tx.take i) vs ov ∧ OwnTx wr JC w5.heap.size hs (tx.take i) us cv ∧
    (∀ k, Blks JV gs (tx.take i).length k → ¬ Blks JC hs (tx.take i).length k) ∧ Below w5.heap.size w5 wr ∧ Below w.heap.size w wr
theorem Dsk.below {B : Nat} {w w' : World} {F K : Nat → Prop} {a : Nat} {pm : PM} {n dev N d g : Nat} {v : Value} {txs : List Tx} {cost dims : Nat} {H : List (List UInt8)} {G E nx : Nat} (x : Dsk B w F K a pm n dev N d g v txs cost dims H G E nx) (hb : Below w.heap.size w w') : Dsk B w' F K a pm n dev N d g v txs cost dims H G E nx :=
  ⟨x.st.below hb, x.disk, x.on, x.jr, x.wal.below hb, Blk.below_ x.desk hb, x.now.below hb, x.gK, x.dK, x.gF, x.dF, x.gB, x.dB⟩
theorem Dsk.ne {B : Nat} {w : World} {F K : Nat → Prop} {a : Nat} {pm : PM} {n dev N d g : Nat} {v : Value} {txs : List Tx} {cost dims : Nat} {H : List (List UInt8)} {G E nx : Nat} (x : Dsk B w F K a pm n dev N d g v txs cost dims H G E nx) : d ≠ g := fun e => by
  have h1 : w.heap[d]? = _ := x.desk
  have h2 : w.heap[g]? = _ := x.wal
  rw [← e, h1] at h2
  injection h2 with h2
  injection h2 with _ h3
  exact absurd h3 (by decide)
/-- What the comparing finds. -/
def ApM (w8 : World) (BO JV : Nat → Prop) (gs : Nat → Nat) (tx : Tx) (vs : List Value) (ov iv : Value) (nt : Nat) (wr : World) : Prop :=
  ∃ i : Nat, iv = .int .i64 (i : Int) ∧ i ≤ nt ∧ Mods w8.heap.size BO w8 wr ∧ Vec wr JV 32 1 ov nt vs ∧ ∀ (j : Nat) (b : List UInt8), i ≤ j → tx[j]? = some b → ∃ u, vs[j]? = some u ∧ ByJ wr (fun k => k = gs j) b u
/-- The four ways of 'Append'. -/
def ApC (w' : World) (a dev N g : Nat) (_pm pm' : PM) (H : List (List UInt8)) (G E nx : Nat) (txs : List Tx) (tx : Tx) (code : Int) : Prop :=
  (code = 5 ∧ longM tx = true ∧ Disk pm' dev N H [] ∧ pm'.off = false ∧ WalB w' g a dev N ⟨G, E, nx, txs.length + 1⟩) ∨
  (code = 3 ∧ longM tx = false ∧ fitsM N nx tx = false ∧ Disk pm' dev N H [] ∧ pm'.off = false ∧ WalB w' g a dev N ⟨G, E, nx, txs.length + 1⟩) ∨
  (code = 0 ∧ fitsM N nx tx = true ∧ pm'.off = false ∧ WalB w' g a dev N ⟨G, E, nx + partsM (encM tx), (txs ++ [tx]).length + 1⟩ ∧ ∃ H', Disk pm' dev N H' [] ∧ Jr N H' G E G (txs ++ [tx]) (nx + partsM (encM tx))) ∨
  (code = 2 ∧ fitsM N nx tx = true ∧ pm'.off = true ∧ ∃ ws', Disk pm' dev N H ws' ∧ ∀ vs : Ws, vs.Sublist ws' → Jr N (setAll vs H) G E (G + 1) txs nx ∨ Jr N (setAll vs H) G E (G + 1) (txs ++ [tx]) (nx + partsM (encM tx)))
set_option maxRecDepth 100000 in
set_option maxHeartbeats 16000000 in
theorem append_any {B : Nat} {w : World} {F K : Nat → Prop} {a : Nat} {pm : PM} {n dev N d g : Nat} {v : Value} {txs : List Tx} {dims : Nat} {H : List (List UInt8)} {G E nx : Nat} (x : Dsk B w F K a pm n dev N d g v txs (sumM txs) dims H G E nx) (hB : B ≤ w.heap.size) (hn : n ≤ 520000000) (hG : G + 5 < 4000000000) (hdm : dims ≤ 800000000000)
    (hKO : KOk B w F K) (o : OpW) (hrow : ∀ w', Mods w.heap.size (fun k => F k ∨ K k) w w' → RowsAt w' o.TA o.tx) (htl : o.tx.length = o.tn) (htm : o.tn ≤ 1000000000) (htot : totM o.tx ≤ 100000000000000)
    (hk : IAt w o.KA o.keep) (hkl : o.keep.length = o.kn) (hkB : o.keep ≠ [] → ∀ ad, o.KA = some ad → ad.block < B) (hkm : o.kn ≤ 9223372036854775807) (ht : Tab w) (hgc : 0 < B) :
    Calls Tryd.prog 25 #[.pointer (some ⟨d, 0, none⟩), .agg o.val] w (DoneP B w F K a pm (n + 40) dev N d (dims + 2) (G + 2)) := by
  obtain ⟨kd, oN, TA, nt, tc, KA, kn, kc, tx, keep⟩ := o
  obtain ⟨AN, cN, rfl, _⟩ := x.now.rows
  dsimp only at hrow htl htm htot hk hkl hkB hkm
  have HX := Lib.hid x
  have HKO := Lib.hid hKO
  have HROW := Lib.hid hrow
  have HTX := Lib.hid (⟨htl, htot⟩ : _ ∧ _)
  have HK := Lib.hid (⟨hk, hkl, hkB⟩ : _ ∧ _ ∧ _)
  have HT := Lib.hid ht
  have hj1 := x.jr.few.1
  have hj2 := x.jr.nxN
  have hj3 := x.jr.nm
  have hb1 := below3 w (.cells #[.int .i64 kd, .int .i64 oN, .slice TA nt tc, .slice KA kn kc] 54) (.cells #[] 32) (.cells #[] 42)
  have hop := Blk.new w 54 #[.int .i64 kd, .int .i64 oN, .slice TA nt tc, .slice KA kn kc]
  have HOP := Lib.hid ((hop.below_ (below_al' (.cells #[] 32))).below_ (below_al' (.cells #[] 42)))
  have hx3 := x.below hb1
  obtain ⟨vs, hvn, hvr⟩ := hx3.now
  have HVN := Lib.hid hvn
  have HVR := Lib.hid hvr
  have HONE := Lib.hid (TxsAt.one (by rw [hvn.len, Nat.mul_one]) hvr)
  have c3 : (((w.alloc (.cells #[.int .i64 kd, .int .i64 oN, .slice TA nt tc, .slice KA kn kc] 54)).alloc (.cells #[] 32)).alloc (.cells #[] 42)).cell? ⟨d, 3, none⟩ = some (.slice AN txs.length cN) := by rw [Blk.cell hx3.desk]; rfl
  have HB1 := Lib.hid hb1
  clear x hKO hrow htl htot hk hkl hkB ht hb1 hop hx3 hvn hvr
  show Calls Tryd.prog 25 #[.pointer (some ⟨d, 0, none⟩), .agg #[.int .i64 kd, .int .i64 oN, .slice TA nt tc, .slice KA kn kc]] w _
  go_enter Tryd.func25, Tryd.ntmps25
  go_wp2_with
    (at_builtin
     (refine wpList_copy_vec rfl (.tmp 16) (.tmp 20) _ rfl 24 _ txTy _ rfl AN cN rfl HVN.out HONE.out (by unfold maxLen; omega) (by omega) ?_
      intro AX cX w4 hv4 hb4 _
      have HV4 := Lib.hid hv4
      have HB4 := Lib.hid (HB1.out.trans (hb4.mono HB1.out.size))
      have HB4' := Lib.hid hb4
      clear hv4 hb4))
  have hb5 := below_al' (w := w4) (.cells #[] 32)
  have HB5 := Lib.hid (HB4.out.trans (hb5.mono HB4.out.size))
  have HOP5 := Lib.hid ((HOP.out.below_ HB4'.out).below_ hb5)
  have hs3 := HB1.out.size
  have hs4 := HB4.out.size
  have HNX : Hid (Vec (w4.alloc (.cells #[] 32)) (fun k => w.heap.size + 1 ≤ k ∧ k < w4.heap.size) 42 1 (.slice AX txs.length cX) txs.length vs ∧
      ∀ (k : Nat) (t : Tx), txs[k]? = some t → ∃ u, vs[k]? = some u ∧ TxAt (w4.alloc (.cells #[] 32)) (fun k => Calm B F K k ∧ k < w4.heap.size) t u) := Lib.hid (by
    refine ⟨Vec.below (HV4.out.mono fun k hlt hk => ⟨?_, hlt⟩) hb5, fun k t hk => ?_⟩
    · have := hk.1
      simp at this
      omega
    · obtain ⟨u, h1, h2⟩ := HVR.out k t hk
      exact ⟨u, h1, TxAt.below ((h2.below HB4'.out).mono fun k hlt h => ⟨h, hlt⟩) hb5⟩)
  have HS5 : Hid (w4.heap.size + 1 = (w4.alloc (.cells #[] 32)).heap.size ∧ w.heap.size + 1 + 1 + 1 ≤ w4.heap.size) := Lib.hid ⟨by simp, by have := HB4'.out.size; simpa using this⟩
  clear hb5 HVN HVR HONE HB1 HB4 HB4' HV4 HOP c3 hs3 hs4
  generalize hw5 : w4.alloc (.cells #[] 32) = w5 at *
  go_loopw [5, 7, 8] (fun ov cv iv wr => ApL w w5 nt tx ov cv iv wr) (fun _ _ iv _ => nt - (intOf iv).toNat)
  case atStart => exact ⟨0, _, _, _, _, [], [], rfl, by omega, OwnTx.nil_ _ _ _, OwnTx.nil_ _ _ _, fun k h => by rcases h with h | ⟨j, h, _⟩ <;> simp at h, Below.refl _ _, HB5.out⟩
  case round =>
    obtain ⟨i, JV, JC, gs, hs, vs1, us1, rfl, hi, ho1, ho2, hdis, hb5r, hbr⟩ := hrel
    have hli : (tx.take i).length = i := by rw [List.length_take, HTX.out.1]; omega
    obtain ⟨AO, cO, hov⟩ := ho1.vec.shape
    obtain ⟨AC, cC, hcv⟩ := ho2.vec.shape
    rw [hli] at hov hcv
    subst hov hcv
    have kop : wr.cell? ⟨w.heap.size, 2, none⟩ = some (.slice TA nt tc) := by rw [(HOP5.out.below_ hb5r).cell]; rfl
    have hvi1 : Vec wr JV 32 1 (.slice AO i cO) i vs1 := by have := ho1.vec; rwa [hli] at this
    have hvi2 : Vec wr JC 32 1 (.slice AC i cC) i us1 := by have := ho2.vec; rwa [hli] at this
    have HVI := Lib.hid (⟨hvi1, hvi2⟩ : _ ∧ _)
    have HO1 := Lib.hid ho1
    have HO2 := Lib.hid ho2
    have HDIS := Lib.hid hdis
    have HB5R := Lib.hid hb5r
    have HBR := Lib.hid hbr
    have HLI := Lib.hid hli
    clear ho1 ho2 hdis hb5r hbr hli hvi1 hvi2
    by_cases hlt : i < nt
    · have hltI : (i : Int) < (nt : Int) := by omega
      have hltN : decide (i < nt) = true := decide_eq_true hlt
      obtain ⟨b, hb⟩ : ∃ b, tx[i]? = some b := ⟨_, List.getElem?_eq_getElem (by rw [HTX.out.1]; exact hlt)⟩
      obtain ⟨ad, BB, cb, hA, hcb, hbat⟩ := HROW.out w (Mods.refl _ _ _) i b hb
      obtain ⟨m, hm⟩ : ∃ m, b.length = m := ⟨_, rfl⟩
      rw [hm] at hcb
      have hmb : m ≤ 100000000000000 := by
        have h1 := tot_take hb
        have h2 := HTX.out.2
        have h3 : totM (tx.take (i + 1)) ≤ totM tx := by
          have h4 : totM tx = totM (tx.take (i + 1)) + totM (tx.drop (i + 1)) := by
            unfold totM
            rw [← List.sum_append, ← List.map_append, List.take_append_drop]
          omega
        omega
      subst hA
      have hcb1 : (wr.alloc (.cells #[] 5)).cell? (ad.add i) = some (.slice BB m cb) := ((HBR.out.trans ((below_al' (w := wr) (.cells #[] 5)).mono HBR.out.size)).cell (cell_lt hcb)).trans hcb
      have kop1 : (wr.alloc (.cells #[] 5)).cell? ⟨w.heap.size, 2, none⟩ = some (.slice (some ad) nt tc) := ((below_al' (w := wr) (.cells #[] 5)).cell (cell_lt kop)).trans kop
      have HCB := Lib.hid (⟨hcb, hbat, hm⟩ : _ ∧ _ ∧ _)
      have HB := Lib.hid hb
      clear hcb hbat hm hb
      go_wp2_with (first
        | (at_builtin
           (refine wpList_append_bytes rfl (.tmp 31) (.tmp 36) _ rfl wr.heap.size _ Pl.byteTy _ 0 0 [] rfl (Own.new wr _ _ rfl (Nat.le_refl _) (by rfl) rfl (by decide)) BB m cb b rfl (HCB.out.2.1.below (HBR.out.trans ((below_al' _).mono HBR.out.size))) HCB.out.2.2 m (Nat.zero_add m) (by omega) (by simp) ?_
            intro A6 c6 w6 ho6 hg6 hb6 hA6
            rw [List.nil_append] at ho6
            have hb06 := (below_al' (w := wr) (.cells #[] 5)).trans (hb6.mono (by simp))
            have HO6 := Lib.hid ho6
            have HB6 := Lib.hid hb06
            have HV6 := Lib.hid (HVI.out.1.below hb06)
            clear ho6 hg6 hb6 hA6 hb06 hcb1 kop1))
        | (at_builtin
           (refine wpList_append_vec rfl (.tmp 30) (.tmp 38) _ rfl 24 _ rowsTy rfl (HV6.out.below (below_al' _)) ⟨w6.heap.size, 0, none⟩ 1 1 [.slice A6 m c6] rfl rfl (blk_news (Blk.new w6 _ _)) (by intro v hv; simp at hv; subst hv; rfl) ?c1 ?c2 ?_
            case c1 => unfold maxLen; omega
            case c2 => omega
            intro v7 w7 row hv7 hg7 hr7
            obtain ⟨AO7, cO7, rfl⟩ := hv7.shape
            obtain ⟨JV', gs', ho7, hnew7, hm7⟩ := HO1.out.snoc HB5R.out.size HB6.out HO6.out (by rw [HLI.out]; exact hv7) hg7 hr7
            have hb57 : Below w5.heap.size wr w7 := (hm7.mono HB5R.out.size fun _ _ h => h).below fun k hk hf => by have := (HO1.out.lt k hf).1; omega
            have hb7 := HBR.out.trans (hb57.mono HB5.out.size)
            have ho27 := HO2.out.mods hm7 HDIS.out
            have HO7 := Lib.hid (⟨ho7, hnew7⟩ : _ ∧ _)
            have HO27 := Lib.hid ho27
            have HV7 := Lib.hid (show Vec w7 JC 32 1 (.slice AC i cC) i us1 by have := ho27.vec; rwa [HLI.out] at this)
            have hb57' := HB5R.out.trans hb57
            have HB57 := Lib.hid hb57'
            have HB7 := Lib.hid hb7
            have HSZ7 := Lib.hid hb57.size
            have hcb8 : (w7.alloc (.cells #[] 5)).cell? (ad.add i) = some (.slice BB m cb) := ((hb7.trans ((below_al' (w := w7) (.cells #[] 5)).mono hb7.size)).cell (cell_lt HCB.out.1)).trans HCB.out.1
            have kop8 : (w7.alloc (.cells #[] 5)).cell? ⟨w.heap.size, 2, none⟩ = some (.slice (some ad) nt tc) := by rw [((HOP5.out.below_ hb57').below_ (below_al' (w := w7) (.cells #[] 5))).cell]; rfl
            clear hv7 hg7 hr7 ho7 hnew7 hm7 hb57 hb7 ho27 hb57' HV6 HO6 HB6))
        | (at_builtin
           (refine wpList_append_bytes rfl (.tmp 41) (.tmp 46) _ rfl w7.heap.size _ Pl.byteTy _ 0 0 [] rfl (Own.new w7 _ _ rfl (Nat.le_refl _) (by rfl) rfl (by decide)) BB m cb b rfl (HCB.out.2.1.below (HB7.out.trans ((below_al' _).mono HB7.out.size))) HCB.out.2.2 m (Nat.zero_add m) (by omega) (by simp) ?_
            intro A8 c8 w8 ho8 hg8 hb8 hA8
            rw [List.nil_append] at ho8
            have hb08 := (below_al' (w := w7) (.cells #[] 5)).trans (hb8.mono (by simp))
            have HO8 := Lib.hid ho8
            have HB8 := Lib.hid hb08
            have HV8 := Lib.hid (HV7.out.below hb08)
            clear ho8 hg8 hb8 hA8 hb08 hcb8 kop8))
        | (at_builtin
           (refine wpList_append_vec rfl (.tmp 40) (.tmp 48) _ rfl 24 _ rowsTy rfl (HV8.out.below (below_al' _)) ⟨w8.heap.size, 0, none⟩ 1 1 [.slice A8 m c8] rfl rfl (blk_news (Blk.new w8 _ _)) (by intro v hv; simp at hv; subst hv; rfl) ?c3 ?c4 ?_
            case c3 => unfold maxLen; omega
            case c4 => omega
            intro v9 w9 row hv9 hg9 hr9
            obtain ⟨AC9, cC9, rfl⟩ := hv9.shape
            obtain ⟨JC', hs', ho9, hnew9, hm9⟩ := HO27.out.snoc HB57.out.size HB8.out HO8.out (by rw [HLI.out]; exact hv9) hg9 hr9
            have HO9 := Lib.hid (⟨ho9, hnew9, hm9⟩ : _ ∧ _ ∧ _)
            clear hv9 hg9 hr9 ho9 hnew9 hm9 HV8 HO8 HB8)))
      go_roundw
      case rel =>
        have hm9 := HO9.out.2.2
        have hb59 : Below w5.heap.size w7 w9 := (hm9.mono HB57.out.size fun _ _ h => h).below fun k hk hf => by have := (HO27.out.lt k hf).1; omega
        have htk : tx.take (i + 1) = tx.take i ++ [b] := by rw [List.take_add_one, HB.out]; rfl
        have hd7 : ∀ k, Blks JC hs (tx.take i).length k → ¬ Blks JV' gs' (tx.take i ++ [b]).length k := fun k h1 h2 => by
          rcases HO7.out.2 k h2 with h | h
          · exact HDIS.out k h h1
          · have := (HO2.out.lt k h1).2
            omega
        refine ⟨i + 1, JV', JC', gs', hs', vs1 ++ [.slice A6 m c6], us1 ++ [.slice A8 m c8], by simp, by omega, ?_, ?_, ?_, HB57.out.trans hb59, HB7.out.trans (hb59.mono HB5.out.size)⟩
        · rw [htk]
          exact HO7.out.1.mods hm9 hd7
        · rw [htk]
          exact HO9.out.1
        · rw [htk]
          intro k h1 h2
          rcases HO9.out.2.1 k h2 with h | h
          · exact hd7 k h h1
          · have := (HO7.out.1.lt k h1).2
            omega
      case measure => simp [intOf]; omega
    · obtain rfl : nt = i := by omega
      have hltI : ¬ (nt : Int) < (nt : Int) := by omega
      have htn : tx.take nt = tx := by rw [← HTX.out.1, List.take_length]
      rw [htn] at HO1 HO2 HDIS
      have hvx := HNX.out.1.below HB5R.out
      have HVX := Lib.hid hvx
      have HZ := Lib.hid (⟨(HX.out.st), (fun k (h : Blks JV gs tx.length k) => HO1.out.lt k h), HB5R.out.size⟩ : _ ∧ (∀ k, Blks JV gs tx.length k → _) ∧ _)
      clear hvx htn
      go_wp2_with
        (at_builtin
         (refine wpList_append_vec rfl (.tmp 50) (.tmp 52) _ rfl 24 _ txTy rfl (HVX.out.below (below_al' _)) ⟨wr.heap.size, 0, none⟩ 1 1 [.slice AC nt cC] rfl rfl (blk_news (Blk.new wr _ _)) (by intro v hv; simp at hv; subst hv; rfl) ?c1 ?c2 ?_
          case c1 => unfold maxLen; omega
          case c2 => omega
          intro v6 w6 row hv6 hg6 hr6
          obtain ⟨A6, c6, rfl⟩ := hv6.shape
          have HG6 := Lib.hid (⟨hv6, hg6, hr6⟩ : _ ∧ _ ∧ _)
          have hm6 := mods_grow (below_al' (w := wr) (.cells #[.slice AC nt cC] 42)) hg6 hr6
          have hb6 : Below w.heap.size wr w6 := (hm6.mono HBR.out.size fun _ _ h => h).below fun k hk hf => by have := hf.1; omega
          have HM6 := Lib.hid hm6
          have HB6 := Lib.hid (HBR.out.trans hb6)
          have kop6 : w6.cell? ⟨w.heap.size, 2, none⟩ = some (.slice TA nt tc) := by rw [(Blk.mods (HOP5.out.below_ HB5R.out) hm6 (HOP5.out.below_ HB5R.out).lt (fun h => by have := h.1; omega)).cell]; rfl
          clear hv6 hg6 hr6 hm6 hb6 kop))
      have hown6 := HO1.out.mods HM6.out (fun k h hb => by have := (HO1.out.lt k hb).1; have := HS5.out.1; have := h.2; omega)
      have hx6 := HX.out.below HB6.out
      have hrow6 := HROW.out w6 (Mods.of_below HB6.out)
      have hK6 : KOk B w6 F (fun k => K k ∨ Blks JV gs tx.length k) := fun k hk => by
        have h1 := HB6.out.size
        have h2 := HB5.out.size
        rcases hk with hk | hk
        · have := HKO.out k hk
          exact ⟨this.1, this.2.1, by omega⟩
        · have h3 := hown6.lt k hk
          exact ⟨by omega, fun hF => by have := (HX.out.st.lt k hF).2; omega, h3.2⟩
      have hnow6 : TxsAt w6 (Calm B F fun k => K k ∨ Blks JV gs tx.length k) txs (.slice AN txs.length cN) := TxsAt.below (HX.out.now.mono fun k hlt hc => ⟨hc.1, hc.2.1, fun hh => hh.elim hc.2.2 fun h => by have := (HO1.out.lt k h).1; have := HB5.out.size; omega⟩) HB6.out
      have hnx6 : TxsAt w6 (Calm B F fun k => K k ∨ Blks JV gs tx.length k) (txs ++ [tx]) (.slice A6 (txs.length + 1) c6) := by
        obtain ⟨hv6, hg6, hr6⟩ := HG6.out
        have hs5 : Same (wr.alloc (.cells #[.slice AC nt cC] 42)) w6 5 := Same.grown hg6 hr6 (by decide)
        have hs32 : Same (wr.alloc (.cells #[.slice AC nt cC] 42)) w6 32 := Same.grown hg6 hr6 (by decide)
        have hz1 := HB5.out.size
        have hz2 := HS5.out
        have hz3 := HB5R.out.size
        refine TxsAt.snoc (hv6.mono fun k hlt hk => ?_) (by rw [HVX.out.len, Nat.mul_one]) (fun k t hk => ?_) ?_
        · have hkk : w.heap.size ≤ k ∧ ¬ Blks JV gs tx.length k := by
            rcases hk with hk | hk
            · exact ⟨by omega, fun h => by have := (HO1.out.lt k h).1; omega⟩
            · have h1 := hk.1
              simp at h1
              exact ⟨by omega, fun h => by have := (HO1.out.lt k h).2; omega⟩
          exact ⟨by omega, fun hF => by have := (HX.out.st.lt k hF).2; omega, fun hh => hh.elim (fun h => by have := (HKO.out k h).2.2; omega) hkk.2⟩
        · obtain ⟨u, h1, h2⟩ := HNX.out.2 k t hk
          refine ⟨u, h1, TxAt.mono ((TxAt.below h2 (HB5R.out.trans ((below_al' _).mono HB5R.out.size))).same hs5 hs32) fun k hlt hc => ⟨hc.1.1, hc.1.2.1, fun hh => hh.elim hc.1.2.2 fun h => by have := (HO1.out.lt k h).1; have := hc.2; omega⟩⟩
        · have h2 := (HO2.out.tx.below (below_al' (w := wr) (.cells #[.slice AC nt cC] 42))).same hs5 hs32
          refine TxAt.mono (show TxAt w6 _ tx (.slice AC nt cC) from h2) fun k hlt hc => ?_
          have h3 := HO2.out.lt k hc
          exact ⟨by omega, fun hF => by have := (HX.out.st.lt k hF).2; omega, fun hh => hh.elim (fun h => by have := (HKO.out k h).2.2; omega) fun h => HDIS.out k h hc⟩
      have hop6 := Blk.mods (HOP5.out.below_ HB5R.out) HM6.out (HOP5.out.below_ HB5R.out).lt (fun h => by have := h.1; omega)
      have c2 : w6.cell? ⟨d, 2, none⟩ = some (.pointer (some ⟨g, 0, none⟩)) := by rw [Blk.cell hx6.desk]; rfl
      have HX6 := Lib.hid hx6
      have HOWN6 := Lib.hid hown6
      have HK6 := Lib.hid hK6
      have HN6 := Lib.hid (⟨hnow6, hnx6⟩ : _ ∧ _)
      have HOP6 := Lib.hid hop6
      have HLG := Lib.hid (rlong_any w6 TA nt tc tx hrow6 HTX.out.1 htm (by have := HTX.out.2; omega))
      have HFT := Lib.hid (fits_on (m := ⟨G, E, nx, txs.length + 1⟩) hx6.wal (c := cO) hown6.rowsA HTX.out.1 htm (by have := HTX.out.2; omega) hj2 (by omega))
      clear hown6 hx6 hrow6 hK6 hnow6 hnx6 hop6 HG6 HNX HVX
      refine HLG.out.mono ?_
      rintro e _ ⟨rfl, rfl⟩
      go_wp2_with fail
      refine HFT.out.mono ?_
      rintro e w7 ⟨rfl, hb7⟩
      have c2' : w7.cell? ⟨d, 2, none⟩ = some (.pointer (some ⟨g, 0, none⟩)) := (hb7.cell (cell_lt c2)).trans c2
      have hb67 := HB6.out.trans (hb7.mono HB6.out.size)
      have HB7 := Lib.hid hb67
      have HB67 := Lib.hid hb7
      have HAP := Lib.hid (append_jr (HX6.out.st.below hb7) HX.out.disk (Nat.le_trans hB hb67.size) (by omega) HX.out.on HX.out.jr (HX6.out.wal.below hb7) HX.out.gF (c := cO) (HOWN6.out.below hb7).rowsA HTX.out.1 htm (by have := HTX.out.2; omega) (HT.out.below hb67 (Nat.lt_of_lt_of_le hgc hB)) hgc)
      clear hb7 hb67 HFT HLG kop6
      go_wp2_with fail
      refine HAP.out.mono ?_
      rintro e w8 ⟨F8, pm8, hf8, h8⟩
      obtain ⟨code, rfl, hc8⟩ : ∃ code : Int, e = .returned (.int .i64 code) ∧ ApC w8 a dev N g pm pm8 H G E nx txs tx code := by
        rcases h8 with ⟨h1, h2, h3⟩ | ⟨h0, h1, h2, h3⟩ | ⟨h1, h2, h3⟩ | ⟨h1, h2, h3, h4⟩
        · exact ⟨5, h2, .inl ⟨rfl, h1, h3⟩⟩
        · exact ⟨3, h2, .inr (.inl ⟨rfl, h0, h1, h3⟩)⟩
        · exact ⟨0, h2, .inr (.inr (.inl ⟨rfl, h1, h3⟩))⟩
        · exact ⟨2, h2, .inr (.inr (.inr ⟨rfl, h1, h4⟩))⟩
      have HC8 := Lib.hid hc8
      have hown8 := (HOWN6.out.below HB67.out).mods hf8.mods (fun k h hb => by
        have h1 := (HO1.out.lt k hb).1
        have h2 := HB5.out.size
        rcases h with h | h
        · have := (HX.out.st.lt k h).2; omega
        · have := Blk.lt HX.out.wal; omega)
      have hfd8 : FrD B w7 F (fun k => K k ∨ Blks JV gs tx.length k) a pm (n + 25) dev F8 (fun k => K k ∨ Blks JV gs tx.length k) pm8 w8 := hf8.desk (.inl HX.out.gK)
      have HFD8 := Lib.hid hfd8
      have HN8 := Lib.hid (⟨hfd8.calm (HN6.out.1.below HB67.out), hfd8.calm (HN6.out.2.below HB67.out)⟩ : _ ∧ _)
      have HM8 : Hid (Mods w.heap.size (fun k => F k ∨ K k) w w8) := Lib.hid ((Mods.of_below HB7.out).trans (hf8.mods.mono HB7.out.size fun k _ h => h.imp id fun e => by rw [e]; exact HX.out.gK))
      have hne := HX.out.ne
      have HOP8 := Lib.hid (Blk.mods (HOP6.out.below_ HB67.out) hf8.mods (HOP6.out.below_ HB67.out).lt (fun h => h.elim (fun h => by have := (HX.out.st.lt _ h).2; omega) fun h => by have := Blk.lt HX.out.wal; omega))
      have HDB8 := Lib.hid (Blk.mods (HX6.out.desk.below_ HB67.out) hf8.mods (HX6.out.desk.below_ HB67.out).lt (fun h => h.elim HX.out.dF hne))
      have HOWN8 := Lib.hid hown8
      clear h8 hc8 hown8 hfd8 hf8 c2 c2' HAP hne
      go_wp2_with fail
      go_loopw [12] (fun iv wr => ApM w8 (Blks JV gs tx.length) JV gs tx vs1 (.slice AO nt cO) iv nt wr) (fun iv _ => nt - (intOf iv).toNat)
      case atStart => exact ⟨0, rfl, by omega, Mods.refl _ _ _, by have := HOWN8.out.vec; rwa [HTX.out.1] at this, fun j b _ hj => HOWN8.out.rows j b hj⟩
      case round =>
        obtain ⟨i, rfl, hi, hm, hv, hby⟩ := hrel
        have hmw := HM8.out.trans (hm.mono HM8.out.size fun k hk hb => (show False by have := (HO1.out.lt k hb).1; have := HB5.out.size; omega).elim)
        have hopw := Blk.mods HOP8.out hm HOP8.out.lt (fun hb => by have := (HO1.out.lt _ hb).1; have := HS5.out; omega)
        have kop : wr.cell? ⟨w.heap.size, 2, none⟩ = some (.slice TA nt tc) := by rw [hopw.cell]; rfl
        have HMW := Lib.hid hmw
        have HM := Lib.hid hm
        have HV := Lib.hid hv
        have HBY := Lib.hid hby
        clear hmw hopw hm hv hby
        by_cases hlt2 : i < nt
        · have hltI2 : (i : Int) < (nt : Int) := by omega
          have hltN2 : decide (i < nt) = true := decide_eq_true hlt2
          obtain ⟨b, hb⟩ : ∃ b, tx[i]? = some b := ⟨_, List.getElem?_eq_getElem (by rw [HTX.out.1]; exact hlt2)⟩
          obtain ⟨u, hu, hbu⟩ := HBY.out i b (Nat.le_refl _) hb
          obtain ⟨AI, cI, rfl, hbI⟩ := hbu.bat
          obtain ⟨go, hAO, hcu⟩ := HV.out.cell i _ hu
          obtain ⟨ad1, had1, hc1⟩ : ∃ ad, AO = some ad ∧ wr.cell? (ad.add i) = some (.slice AI b.length cI) := ⟨_, hAO, by rw [add_off]; simpa using hcu⟩
          obtain ⟨ad2, BB, cb, hTA, hc2, hbB⟩ := HROW.out wr HMW.out i b hb
          obtain ⟨m, hmb⟩ : ∃ m, b.length = m := ⟨_, rfl⟩
          rw [hmb] at hc1 hc2
          have hmm : m ≤ 100000000000000 := by
            have h1 := tot_take hb
            have h2 := HTX.out.2
            have h3 : totM (tx.take (i + 1)) ≤ totM tx := by
              have h4 : totM tx = totM (tx.take (i + 1)) + totM (tx.drop (i + 1)) := by
                unfold totM
                rw [← List.sum_append, ← List.map_append, List.take_append_drop]
              omega
            omega
          have HI := Lib.hid (⟨hbI, hbB, hmb, hb⟩ : _ ∧ _ ∧ _ ∧ _)
          have HU := Lib.hid (⟨hu, hbu⟩ : _ ∧ _)
          have HC1 := Lib.hid hc1
          clear hAO hcu hbI hbB hmb hb hu hbu
          subst had1 hTA
          go_upto_region 16 with fail
          go_cut [86] from 75 to 86 (fun v wc => v = .bool false ∧ wc = wr.drew)
          case first =>
            have k3 := run_toString (P := Tryd.prog) (w := wr.drew) (ts := 9) Pl.byteTy al_strTy cI (HI.out.1.below (below_drewN (Below.refl wr.heap.size _) 1)) HI.out.2.2.1
            have k4 := run_toString (P := Tryd.prog) (w := wr.drew) (ts := 9) Pl.byteTy al_strTy cb (HI.out.2.1.below (below_drewN (Below.refl wr.heap.size _) 1)) HI.out.2.2.1
            refine Ord.tb_start [4, 10] (by kernel_rfl) (Ord.tb_pre [0, 1, 2, 3, 5, 6, 7, 8, 9] [_, _, _, _, _, _, _, _, _] (k := 3) (by kernel_rfl) rfl rfl (by kernel_rfl) ?_)
            go_wp2_with fail
            generalize (⟨b.toArray⟩ : ByteArray) = S at k3 k4
            refine Ord.nx_tb (Ord.tb_fork (i := 4) (j := 10) (k := 2) (by kernel_rfl) rfl rfl ?_ ?_)
            · go_wp2_with fail
              refine Ord.nx_tb2 (w0 := wr.drew) (Below.refl _ _) (Ord.tb_ords [10, 11] (by kernel_rfl) rfl (by kernel_rfl) (Ord.ord_one rfl ?_))
              go_wp2_with fail
              refine Ord.nx_and (Below.refl _ _) (Ord.ord_all [_] rfl (by kernel_rfl) ?_)
              go_wp2_with fail
              refine Ord.nx_end ?_
              go_wp2_with fail
              go_meet
              exact ⟨by simp, rfl⟩
            · go_wp2_with fail
              refine Ord.nx_tb2 (w0 := wr.drew) (Below.refl _ _) (Ord.tb_ords [4, 11] (by kernel_rfl) rfl (by kernel_rfl) (Ord.ord_one rfl ?_))
              go_wp2_with fail
              refine Ord.nx_and (Below.refl _ _) (Ord.ord_all [_] rfl (by kernel_rfl) ?_)
              go_wp2_with fail
              refine Ord.nx_end ?_
              go_wp2_with fail
              go_meet
              exact ⟨by simp, rfl⟩
          case rest =>
            obtain ⟨rfl, rfl⟩ := hcut
            clear hc1 hc2 kop
            go_wp2_with fail
            go_loopw [13] (fun kv wi => ∃ (k : Nat) (bs' : List UInt8), kv = .int .i64 (k : Int) ∧ k ≤ m ∧ bs'.length = m ∧ Mods w8.heap.size (Blks JV gs tx.length) w8 wi ∧ Vec wi JV 32 1 (.slice (some ad1) nt cO) nt vs1 ∧ ByJ wi (fun k => k = gs i) bs' (.slice AI m cI) ∧
              ∀ (j : Nat) (b : List UInt8), i + 1 ≤ j → tx[j]? = some b → ∃ u, vs1[j]? = some u ∧ ByJ wi (fun k => k = gs j) b u) (fun kv _ => m - (intOf kv).toNat)
            case atStart => exact ⟨0, b, rfl, by omega, HI.out.2.2.1, HM.out.drew, HV.out, by have := HU.out.2; rw [HI.out.2.2.1] at this; exact this, fun j b hj hb => HBY.out j b (by omega) hb⟩
            case round =>
              obtain ⟨k, bs', rfl, hk, hbl, hm, hv, hbi, hbo⟩ := hrel
              have hbv : Vec wr (fun k => k = gs i) 5 1 (.slice AI bs'.length cI) bs'.length (bs'.map B8) := by
                have h1 : Vec wr (fun k => k = gs i) 5 1 (.slice AI m cI) bs'.length (bs'.map B8) := hbi
                rwa [← hbl] at h1
              obtain ⟨go, hAO, hcu⟩ := hv.cell i _ (show vs1[i]? = some (.slice AI b.length cI) from HU.out.1)
              have hc1 := hcu
              rw [show (⟨go, i, none⟩ : Addr) = ad1.add i by rw [Option.some.inj hAO, add_off]; simp, HI.out.2.2.1] at hc1
              have HM2 := Lib.hid hm
              have HV2 := Lib.hid hv
              have HBI := Lib.hid hbv
              have HBO := Lib.hid hbo
              have HBL := Lib.hid hbl
              clear hm hv hbi hbo hbv hAO hcu hbl
              by_cases hkm2 : k < m
              · have hkI : (k : Int) < (m : Int) := by omega
                have hkN : decide (k < m) = true := decide_eq_true hkm2
                obtain ⟨q, capq, cur, hsl, hq, hcur, _⟩ := HBI.out.form (by rw [HBL.out]; omega)
                injection hsl with hAI e2 e3
                clear e2 e3
                have hq' : q = gs i := hq
                clear hq
                subst hAI
                have z1 := HBI.out.free (by rw [HBL.out]; omega) k
                obtain ⟨x, hx⟩ : ∃ x, bs'[k]? = some x := ⟨_, List.getElem?_eq_getElem (by rw [HBL.out]; exact hkm2)⟩
                have k1 := HBI.out.at_ (k := k) (u := B8 x) (by rw [List.getElem?_map, hx]; rfl)
                have HQ := Lib.hid (⟨hq', hcur⟩ : _ ∧ _)
                clear hq' hcur hx
                go_wp2_with fail
                go_roundw
                case rel =>
                  have hit : i < tx.length := by rw [HTX.out.1]; exact hlt2
                  have hms : Mods wr.heap.size (fun j => j = q) wr (wr.setCell ⟨q, k, none⟩ (.int .u8 99)) := (Mods.refl wr.heap.size (fun j => j = q) wr).setCell (p := ⟨q, k, none⟩) (.inl rfl) _
                  refine ⟨k + 1, bs'.set k 99, by simp, by omega, by rw [List.length_set]; exact HBL.out, HM2.out.setCell (p := ⟨q, k, none⟩) (.inl (.inr ⟨i, hit, HQ.out.1.symm⟩)) _, HV2.out.far (p := ⟨q, k, none⟩) HQ.out.2 (by decide) _, ?_, fun j b hj hb => ?_⟩
                  · have h1 := HBI.out.set k (.int .u8 99)
                    show Vec _ _ _ _ _ _ _
                    rw [List.length_set, List.map_set, ← HBL.out]
                    exact h1
                  · obtain ⟨u, h1, h2⟩ := HBO.out j b hj hb
                    refine ⟨u, h1, Vec.mods h2 hms fun g hg e => ⟨hg, fun e2 => ?_⟩⟩
                    have h3 := HO1.out.inc i j (by omega) (List.getElem?_eq_some_iff.1 hb).1
                    have h4 : g = gs j := e
                    have h5 : g = q := e2
                    have h6 := HQ.out.1
                    omega
                case measure => simp [intOf]; omega
              · obtain rfl : m = k := by omega
                have hkI : ¬ (m : Int) < (m : Int) := by omega
                go_wp2_with fail
                go_roundw
                case rel => exact ⟨i + 1, by simp, by omega, HM2.out, HV2.out, HBO.out⟩
                case measure => simp [intOf]; omega
        · obtain rfl : nt = i := by omega
          have hltI2 : ¬ (nt : Int) < (nt : Int) := by omega
          have hw8r := HM.out
          have hK8 : KOk B w8 F8 (fun k => K k ∨ Blks JV gs tx.length k) := HFD8.out.kok fun k hk => by
            have h1 := HK6.out k hk
            exact ⟨h1.1, h1.2.1, Nat.lt_of_lt_of_le h1.2.2 HB67.out.size⟩
          have hfb : ∀ k, F8 k → ¬ Blks JV gs tx.length k := fun k h hb => (hK8 k (.inr hb)).2.1 h
          have hst : St B wr F8 a pm8 (n + 25) := ⟨HFD8.out.st.at_.mods hw8r fun k hk hF => ⟨hk, hfb k hF⟩, HFD8.out.st.ok, fun k hk => ⟨(HFD8.out.st.lt k hk).1, hw8r.lt (HFD8.out.st.lt k hk).2⟩, HFD8.out.st.steps, HFD8.out.st.waits⟩
          have hf8r : FrD B w8 F8 (fun k => K k ∨ Blks JV gs tx.length k) a pm8 (n + 25) dev F8 (fun k => K k ∨ Blks JV gs tx.length k) pm8 wr := ⟨fun _ h => .inl h, fun _ h => .inl h, hw8r.mono (Nat.le_refl _) fun k _ h => .inr (.inr h), hst, fun _ _ _ _ h => h, id⟩
          have hcost := HX.out.jr.sum_le.1
          have hctx : costM tx ≤ 1000000000000000 := by
            have h1 := HTX.out.2
            have h2 := HTX.out.1
            unfold costM
            omega
          have hbd : Below wr.heap.size wr wr.drew := below_drewN (Below.refl _ _) 1
          have hdw : d < w.heap.size := Blk.lt HX.out.desk
          have hgw : g < w.heap.size := Blk.lt HX.out.wal
          have hz5 := HB5.out.size
          have hnd : ¬ Blks JV gs tx.length d := fun h => by have := (HO1.out.lt d h).1; omega
          have hng : ¬ Blks JV gs tx.length g := fun h => by have := (HO1.out.lt g h).1; omega
          have hdbr := Blk.mods HDB8.out hw8r HDB8.out.lt hnd
          have c4 : wr.cell? ⟨d, 4, none⟩ = some (.int .i64 (sumM txs : Int)) := by rw [hdbr.cell]; rfl
          have c5 : wr.cell? ⟨d, 5, none⟩ = some (.int .i64 (N : Int)) := by rw [hdbr.cell]; rfl
          have hfe : FrE B w F K a pm (n + 25) dev F8 (fun k => K k ∨ Blks JV gs tx.length k) pm8 wr.drew :=
            ⟨fun k h => (HFD8.out.grow k h).imp id fun h => Nat.le_trans HB7.out.size h, fun k h => h.imp id fun h => by have := (HO1.out.lt k h).1; omega, HMW.out.drew, hst.below hbd, HFD8.out.els⟩
          have hK9 : KOk B wr.drew F8 (fun k => K k ∨ Blks JV gs tx.length k) := fun k hk => ⟨(hK8 k hk).1, (hK8 k hk).2.1, Nat.lt_of_lt_of_le (hK8 k hk).2.2 hw8r.size⟩
          have hnow9 := TxsAt.below (hf8r.calm HN8.out.1) hbd
          have hnx9 := TxsAt.below (hf8r.calm HN8.out.2) hbd
          have hgF : ¬ F8 g := (hK8 g (.inl HX.out.gK)).2.1
          have hdF : ¬ F8 d := (hK8 d (.inl HX.out.dK)).2.1
          have hwal : ∀ m, WalB w8 g a dev N m → WalB wr.drew g a dev N m := fun m h => WalB.below (Blk.mods h hw8r (Blk.lt h) hng) hbd
          obtain ⟨T, hT⟩ : ∃ t, sumM txs + costM tx = t := ⟨_, rfl⟩
          have hn8 := HX.out.jr.n8
          obtain ⟨N4, hN4⟩ : ∃ t, N - 4 = t := ⟨_, rfl⟩
          have hwT : IntKind.i64.wrap ((sumM txs : Int) + (costM tx : Int)) = (T : Int) := by rw [show (sumM txs : Int) + (costM tx : Int) = (T : Int) by omega]; exact IntWalk.i64_in _ (by omega)
          have hwN : IntKind.i64.wrap ((N : Int) - 4) = (N4 : Int) := by rw [show (N : Int) - 4 = (N4 : Int) by omega]; exact IntWalk.i64_in _ (by omega)
          have HT4 := Lib.hid (⟨hT, hN4⟩ : _ ∧ _)
          have HFE := Lib.hid hfe
          have HK9 := Lib.hid hK9
          have HN9 := Lib.hid (⟨hnow9, hnx9⟩ : _ ∧ _)
          have HGD := Lib.hid (⟨hgF, hdF⟩ : _ ∧ _)
          have HDB9 := Lib.hid (hdbr.below_ hbd)
          have HW8R := Lib.hid hw8r
          have HWAL := Lib.hid hwal
          have HST := Lib.hid hst
          clear hfe hK9 hnow9 hnx9 hgF hdF hdbr hw8r hwal hst hf8r hfb hK8 hbd hnd hng hT hN4
          rcases HC8.out with ⟨rfl, hl, hd, hon, hwb⟩ | ⟨rfl, hl, hft, hd, hon, hwb⟩ | ⟨rfl, hft, hon, hwb, hjj⟩ | ⟨rfl, hft, hoff, hjj⟩
          · have hff : fitsM N nx tx = false := by unfold fitsM; rw [hl]; rfl
            rw [hl, hff]
            have HD := Lib.hid (⟨hd, hon, hwb⟩ : _ ∧ _ ∧ _)
            clear hl hff hd hon hwb HC8
            have HCO := Lib.hid (cost_any wr.drew TA nt tc tx (RowsAt.drew_ (HROW.out wr HMW.out)) HTX.out.1 htm (by have := HTX.out.2; omega))
            go_wp2_with fail
            refine Ord.region_ordM [6] [7, 12] [0, 1, 2, 3, 4, 5, 8, 9, 10, 11, 12, 6, 7, 13, 14] (by kernel_rfl) (by kernel_rfl) (by kernel_rfl) (by kernel_rfl) (Ord.ord_run [0, 1, 2, 3, 4, 5, 8, 9, 10, 11] [_, _, _, _, _, _, _, _, _, _] rfl (by kernel_rfl) ?_)
            go_wp2_with fail
            refine Ord.nx_ord (Ord.ord_pure (.int .i64 (N4 : Int)) rfl (by kernel_rfl) (by rfl) (fun w' => by first | (go_simp; done) | (go_simp; exact hwN)) ?_)
            simp only [Act.put, List.setIfInBounds_toArray]
            refine Ord.ord_oneM rfl (by kernel_rfl) ?_
            go_wp2_with fail
            refine HCO.out.mono ?_
            rintro e _ ⟨rfl, rfl⟩
            go_wp2_with fail
            refine Ord.nx_and (Below.refl _ _) (Ord.ord_pure (.int .i64 (T : Int)) rfl (by kernel_rfl) (by rfl) (fun w' => by first | (go_simp; done) | (go_simp; exact hwT)) ?_)
            simp only [Act.put, List.setIfInBounds_toArray]
            refine Ord.ord_all [_, _] rfl (by kernel_rfl) ?_
            clear c4 c5 kop
            go_wp2_with fail
            refine Ord.nx_end ?_
            go_wp2_with fail
            go_ret
            exact ⟨F8, _, pm8, g, _, txs, dims, H, G, E, nx, rfl, HFE.out.more (by omega), ⟨st_more (HST.out.below (below_drewN (Below.refl _ _) 1)) (by omega), HD.out.1, HD.out.2.1, HX.out.jr, HWAL.out _ HD.out.2.2, HDB9.out, HN9.out.1, .inl HX.out.gK, .inl HX.out.dK, HGD.out.1, HGD.out.2, HX.out.gB, HX.out.dB⟩, HK9.out, by omega, by omega⟩
          · have hroom : ¬ T ≤ N4 := by
              have h1 := HX.out.jr.room hl hft
              have h2 := HT4.out
              omega
            rw [hl, hft]
            have HD := Lib.hid (⟨hd, hon, hwb⟩ : _ ∧ _ ∧ _)
            clear hl hft hd hon hwb HC8
            have HCO := Lib.hid (cost_any wr.drew TA nt tc tx (RowsAt.drew_ (HROW.out wr HMW.out)) HTX.out.1 htm (by have := HTX.out.2; omega))
            go_wp2_with fail
            refine Ord.region_ordM [6] [7, 12] [0, 1, 2, 3, 4, 5, 8, 9, 10, 11, 12, 6, 7, 13, 14] (by kernel_rfl) (by kernel_rfl) (by kernel_rfl) (by kernel_rfl) (Ord.ord_run [0, 1, 2, 3, 4, 5, 8, 9, 10, 11] [_, _, _, _, _, _, _, _, _, _] rfl (by kernel_rfl) ?_)
            go_wp2_with fail
            refine Ord.nx_ord (Ord.ord_pure (.int .i64 (N4 : Int)) rfl (by kernel_rfl) (by rfl) (fun w' => by first | (go_simp; done) | (go_simp; exact hwN)) ?_)
            simp only [Act.put, List.setIfInBounds_toArray]
            refine Ord.ord_oneM rfl (by kernel_rfl) ?_
            go_wp2_with fail
            refine HCO.out.mono ?_
            rintro e _ ⟨rfl, rfl⟩
            go_wp2_with fail
            refine Ord.nx_and (Below.refl _ _) (Ord.ord_pure (.int .i64 (T : Int)) rfl (by kernel_rfl) (by rfl) (fun w' => by first | (go_simp; done) | (go_simp; exact hwT)) ?_)
            simp only [Act.put, List.setIfInBounds_toArray]
            refine Ord.ord_all [_, _] rfl (by kernel_rfl) ?_
            clear c4 c5 kop
            go_wp2_with fail
            refine Ord.nx_end ?_
            go_wp2_with fail
            go_ret
            exact ⟨F8, _, pm8, g, _, txs, dims, H, G, E, nx, rfl, HFE.out.more (by omega), ⟨st_more (HST.out.below (below_drewN (Below.refl _ _) 1)) (by omega), HD.out.1, HD.out.2.1, HX.out.jr, HWAL.out _ HD.out.2.2, HDB9.out, HN9.out.1, .inl HX.out.gK, .inl HX.out.dK, HGD.out.1, HGD.out.2, HX.out.gB, HX.out.dB⟩, HK9.out, by omega, by omega⟩
          · have hl := (fitsM_true hft).1
            rw [hl, hft]
            have HD := Lib.hid (⟨hon, hwb, hjj⟩ : _ ∧ _ ∧ _)
            clear hl hft hjj hon hwb HC8
            have HCO := Lib.hid (cost_any wr.drew TA nt tc tx (RowsAt.drew_ (HROW.out wr HMW.out)) HTX.out.1 htm (by have := HTX.out.2; omega))
            go_wp2_with fail
            refine Ord.region_ordM [6] [7, 12] [0, 1, 2, 3, 4, 5, 8, 9, 10, 11, 12, 6, 7, 13, 14] (by kernel_rfl) (by kernel_rfl) (by kernel_rfl) (by kernel_rfl) (Ord.ord_run [0, 1, 2, 3, 4, 5, 8, 9, 10, 11] [_, _, _, _, _, _, _, _, _, _] rfl (by kernel_rfl) ?_)
            go_wp2_with fail
            refine Ord.nx_ord (Ord.ord_pure (.int .i64 (N4 : Int)) rfl (by kernel_rfl) (by rfl) (fun w' => by first | (go_simp; done) | (go_simp; exact hwN)) ?_)
            simp only [Act.put, List.setIfInBounds_toArray]
            refine Ord.ord_oneM rfl (by kernel_rfl) ?_
            go_wp2_with fail
            refine HCO.out.mono ?_
            rintro e _ ⟨rfl, rfl⟩
            go_wp2_with fail
            refine Ord.nx_and (Below.refl _ _) (Ord.ord_pure (.int .i64 (T : Int)) rfl (by kernel_rfl) (by rfl) (fun w' => by first | (go_simp; done) | (go_simp; exact hwT)) ?_)
            simp only [Act.put, List.setIfInBounds_toArray]
            refine Ord.ord_all [_, _] rfl (by kernel_rfl) ?_
            clear c4 c5 kop
            go_wp2_with fail
            refine Ord.nx_end ?_
            have hms : Mods wr.drew.heap.size (fun j => j = d) wr.drew (wr.drew.setCell ⟨d, 3, none⟩ (.slice A6 (txs.length + 1) c6)) := (Mods.refl wr.drew.heap.size (fun j => j = d) wr.drew).setCell (p := ⟨d, 3, none⟩) (.inl rfl) _
            have hb9 : Blk wr.drew d 58 (deskCells a dev g (.slice AN txs.length cN) (sumM txs) N dims).toArray := HDB9.out
            have z3 : wr.frozen? ⟨d, 3, none⟩ = false := hb9.frozen 3
            have k3 : wr.cell? ⟨d, 3, none⟩ = some (.slice AN txs.length cN) := (hb9.cell 3).trans rfl
            have hb10 := hb9.set_ 3 (.slice A6 (txs.length + 1) c6)
            have k4 : wr.cell? ⟨d, 4, none⟩ = some (.int .i64 (sumM txs : Int)) := (hb9.cell 4).trans rfl
            have z4 : wr.frozen? ⟨d, 4, none⟩ = false := hb9.frozen 4
            have hdne : w.heap.size ≠ d := by omega
            have hopr := Blk.mods HOP8.out HW8R.out HOP8.out.lt (fun hb => by have := (HO1.out.lt _ hb).1; have := HS5.out; omega)
            have kop9 : wr.cell? ⟨w.heap.size, 2, none⟩ = some (.slice TA nt tc) := by rw [hopr.cell]; rfl
            have HCO2 := Lib.hid (cost_any (wr.setCell ⟨d, 3, none⟩ (.slice A6 (txs.length + 1) c6)).drew.drew TA nt tc tx (RowsAt.drew_ (RowsAt.drew_ (HROW.out _ (HMW.out.setCell (p := ⟨d, 3, none⟩) (.inl (.inr HX.out.dK)) _)))) HTX.out.1 htm (by have := HTX.out.2; omega))
            have HMS := Lib.hid hms
            have HB10 := Lib.hid (hb10.set_ 4 (.int .i64 (T : Int)))
            clear hms hb9 hb10 hopr
            go_wp2_with fail
            refine Ord.region_ord [7] [0, 1, 2, 3, 4, 5, 6, 7, 8, 9, 10, 11] (by kernel_rfl) (by kernel_rfl) (by kernel_rfl) (by kernel_rfl) (Ord.ord_run [0, 1, 2, 3, 4, 5, 6] [_, _, _, _, _, _, _] rfl (by kernel_rfl) ?_)
            go_wp2_with fail
            refine Ord.nx_ord (Ord.ord_one rfl ?_)
            go_wp2_with fail
            refine HCO2.out.mono ?_
            rintro e _ ⟨rfl, rfl⟩
            go_wp2_with fail
            refine Ord.nx_and (Below.refl _ _) (Ord.ord_all [_, _, _, _] rfl (by kernel_rfl) ?_)
            go_wp2_with fail
            refine Ord.nx_end ?_
            go_wp2_with fail
            go_ret
            obtain ⟨H', hd', hj'⟩ := HD.out.2.2
            have hfe3 := HFE.out.cell (d := d) (.inl HX.out.dK) HGD.out.2 3 (.slice A6 (txs.length + 1) c6)
            have hfe4 := (hfe3.below (below_drewN (Below.refl _ _) 1)).cell (d := d) (.inl HX.out.dK) HGD.out.2 4 (.int .i64 (T : Int))
            have hms4 : Mods (wr.drew.setCell ⟨d, 3, none⟩ (.slice A6 (txs.length + 1) c6)).drew.heap.size (fun j => j = d) (wr.drew.setCell ⟨d, 3, none⟩ (.slice A6 (txs.length + 1) c6)).drew ((wr.drew.setCell ⟨d, 3, none⟩ (.slice A6 (txs.length + 1) c6)).drew.setCell ⟨d, 4, none⟩ (.int .i64 (T : Int))) := (Mods.refl _ (fun j => j = d) _).setCell (p := ⟨d, 4, none⟩) (.inl rfl) _
            have hgd : ¬ g = d := fun e => HX.out.ne e.symm
            have hw9 := HWAL.out _ HD.out.2.1
            have hw10 := Blk.mods hw9 HMS.out (Blk.lt hw9) hgd
            have hw11 := Blk.mods (show WalB (wr.drew.setCell ⟨d, 3, none⟩ (.slice A6 (txs.length + 1) c6)).drew g a dev N _ from hw10) hms4 (Blk.lt hw10) hgd
            have hnow := (TxsAt.below (HN9.out.2.mods HMS.out fun k hk hj => ⟨hk, fun e => hj.2.2 (.inl (e ▸ HX.out.dK))⟩) (below_drewN (Below.refl _ _) 1)).mods hms4 fun k hk hj => ⟨hk, fun e => hj.2.2 (.inl (e ▸ HX.out.dK))⟩
            have hsum : sumM (txs ++ [tx]) = T := by
              rw [← HT4.out.1]
              unfold sumM
              simp
            refine ⟨F8, _, pm8, g, .slice A6 (txs.length + 1) c6, txs ++ [tx], dims, H', G, E, _, rfl, hfe4.more (by omega), ⟨st_more hfe4.st (by omega), hd', HD.out.1, hj', hw11, ?_, hnow, .inl HX.out.gK, .inl HX.out.dK, HGD.out.1, HGD.out.2, HX.out.gB, HX.out.dB⟩, ?_, by omega, by omega⟩
            · rw [hsum]
              have h1 := HB10.out
              have e4 : (deskCells a dev g (.slice A6 (txs.length + 1) c6) T N dims).toArray = ((deskCells a dev g (.slice AN txs.length cN) (sumM txs) N dims).toArray.setIfInBounds 3 (.slice A6 (txs.length + 1) c6)).setIfInBounds 4 (.int .i64 (T : Int)) := by simp [deskCells]
              show Blk _ _ _ _
              rw [e4]
              exact h1
            · intro k hk
              have h1 := HK9.out k hk
              exact ⟨h1.1, h1.2.1, by simpa using h1.2.2⟩
          · have hl := (fitsM_true hft).1
            rw [hl, hft]
            have HD := Lib.hid (⟨hoff, hjj⟩ : _ ∧ _)
            clear hl hft hjj hoff HC8
            have HCO := Lib.hid (cost_any wr.drew TA nt tc tx (RowsAt.drew_ (HROW.out wr HMW.out)) HTX.out.1 htm (by have := HTX.out.2; omega))
            go_wp2_with fail
            refine Ord.region_ordM [6] [7, 12] [0, 1, 2, 3, 4, 5, 8, 9, 10, 11, 12, 6, 7, 13, 14] (by kernel_rfl) (by kernel_rfl) (by kernel_rfl) (by kernel_rfl) (Ord.ord_run [0, 1, 2, 3, 4, 5, 8, 9, 10, 11] [_, _, _, _, _, _, _, _, _, _] rfl (by kernel_rfl) ?_)
            go_wp2_with fail
            refine Ord.nx_ord (Ord.ord_pure (.int .i64 (N4 : Int)) rfl (by kernel_rfl) (by rfl) (fun w' => by first | (go_simp; done) | (go_simp; exact hwN)) ?_)
            simp only [Act.put, List.setIfInBounds_toArray]
            refine Ord.ord_oneM rfl (by kernel_rfl) ?_
            go_wp2_with fail
            refine HCO.out.mono ?_
            rintro e _ ⟨rfl, rfl⟩
            go_wp2_with fail
            refine Ord.nx_and (Below.refl _ _) (Ord.ord_pure (.int .i64 (T : Int)) rfl (by kernel_rfl) (by rfl) (fun w' => by first | (go_simp; done) | (go_simp; exact hwT)) ?_)
            simp only [Act.put, List.setIfInBounds_toArray]
            refine Ord.ord_all [_, _] rfl (by kernel_rfl) ?_
            clear c4 c5 kop
            go_wp2_with fail
            refine Ord.nx_end ?_
            have hopr := Blk.mods HOP8.out HW8R.out HOP8.out.lt (fun hb => by have := (HO1.out.lt _ hb).1; have := HS5.out; omega)
            have kk : wr.cell? ⟨w.heap.size, 3, none⟩ = some (.slice KA kn kc) := by rw [hopr.cell]; rfl
            have k3 : wr.cell? ⟨d, 3, none⟩ = some (.slice AN txs.length cN) := (Blk.cell (show Blk wr.drew d _ _ from HDB9.out) 3).trans rfl
            clear hopr
            go_wp2_with fail
            refine Ord.region_ord [14] [0, 1, 2, 3, 4, 5, 6, 7, 8, 9, 10, 11, 12, 13, 14, 15, 16, 17] (by kernel_rfl) (by kernel_rfl) (by kernel_rfl) (by kernel_rfl) (Ord.ord_run [0, 1, 2, 3, 4, 5, 6, 7, 8, 9, 10, 11, 12, 13] [_, _, _, _, _, _, _, _, _, _, _, _, _, _] rfl (by kernel_rfl) ?_)
            go_wp2_with fail
            refine Ord.nx_ord (Ord.ord_one rfl ?_)
            go_wp2_with fail
            have hbD : Below wr.drew.heap.size wr.drew (wr.alloc (.cells #[.slice AN txs.length cN, .slice A6 (txs.length + 1) c6] 38)).drew.drew := (below_drewN (Below.refl wr.drew.heap.size wr.drew) 1).trans (below_al' (w := wr.drew.drew) (.cells #[.slice AN txs.length cN, .slice A6 (txs.length + 1) c6] 38))
            have hJ : Calm B F8 (fun k => K k ∨ Blks JV gs tx.length k) wr.heap.size := ⟨Nat.le_trans hB HMW.out.size, fun hF => by have := (HST.out.lt _ hF).2; omega, fun hk => by have := (HK9.out _ hk).2.2; simp at this⟩
            have hmay : MayAt (wr.alloc (.cells #[.slice AN txs.length cN, .slice A6 (txs.length + 1) c6] 38)).drew.drew (Calm B F8 (fun k => K k ∨ Blks JV gs tx.length k)) [txs, txs ++ [tx]] (.slice (some ⟨wr.heap.size, 0, none⟩) 2 2) := by
              have h := MayAt.new wr.drew.drew (mays := [txs, txs ++ [tx]]) (J := Calm B F8 (fun k => K k ∨ Blks JV gs tx.length k)) [.slice AN txs.length cN, .slice A6 (txs.length + 1) c6] rfl (by simp) (fun k t hk => by
                rcases k with _ | _ | k
                · simp at hk
                  subst hk
                  exact ⟨_, rfl, TxsAt.below HN9.out.1 (below_drewN (Below.refl _ _) 1)⟩
                · simp at hk
                  subst hk
                  exact ⟨_, rfl, TxsAt.below HN9.out.2 (below_drewN (Below.refl _ _) 1)⟩
                · simp at hk) hJ
              exact h
            have hfe29 := HFE.out.below hbD
            have hlow := hfe29.lows HX.out.st HKO.out hB
            obtain ⟨ws', hdw', hjj⟩ := HD.out.2
            have hx29 : DskX B (wr.alloc (.cells #[.slice AN txs.length cN, .slice A6 (txs.length + 1) c6] 38)).drew.drew F8 (fun k => K k ∨ Blks JV gs tx.length k) a pm8 (n + 25) dev N d dims H ws' G [txs, txs ++ [tx]] := by
              refine ⟨hfe29.st, hdw', HD.out.1, fun vs hvs => ?_, ⟨_, _, _, HDB9.out.below_ hbD⟩, .inl HX.out.dK, HGD.out.2, HX.out.dB⟩
              rcases hjj vs hvs with h | h
              · exact ⟨_, _, _, _, txs, Nat.le_refl _, by simp, h⟩
              · exact ⟨_, _, _, _, txs ++ [tx], Nat.le_refl _, by simp, h⟩
            have hk29 : KOk B (wr.alloc (.cells #[.slice AN txs.length cN, .slice A6 (txs.length + 1) c6] 38)).drew.drew F8 (fun k => K k ∨ Blks JV gs tx.length k) := fun k hk => ⟨(HK9.out k hk).1, (HK9.out k hk).2.1, Nat.lt_of_lt_of_le (HK9.out k hk).2.2 hbD.size⟩
            have HDK := Lib.hid (dark_any hx29 (Nat.le_trans hB hfe29.mods.size) (by omega) (by omega) (by omega) hk29 KA kn kc keep (keep_at HK.out.1 hlow HK.out.2.2) HK.out.2.1 HK.out.2.2 hkm hmay (by simp) (HT.out.below hlow hgc) hgc)
            have HF29 := Lib.hid hfe29
            refine Ord.nx_and (below_al' (w := wr.drew.drew) (.cells #[.slice AN txs.length cN, .slice A6 (txs.length + 1) c6] 38)) (Ord.ord_all [_, _, _] rfl (by kernel_rfl) ?_)
            clear hbD hJ hmay hfe29 hlow hdw' hjj hx29 hk29 kk k3
            go_wp2_with fail
            refine HDK.out.mono ?_
            rintro e w20 h
            obtain ⟨F', K', pm', g', v', txs', dims', H', G', E', nx', rfl, hf, y, hk', hG', hd'⟩ := DoneP.of HF29.out h
            have HY := Lib.hid (⟨hf, y, hk'⟩ : _ ∧ _ ∧ _)
            clear h hf y hk' HDK
            go_wp2_with fail
            refine Ord.nx_end ?_
            go_wp2_with fail
            go_ret
            have y := HY.out.2.1
            exact ⟨F', K', pm', g', v', txs', dims', H', G', E', nx', rfl, HY.out.1.more (by omega), ⟨st_more y.st (by omega), y.disk, y.on, y.jr, y.wal, y.desk, y.now, y.gK, y.dK, y.gF, y.dF, y.gB, y.dB⟩, HY.out.2.2, hG', hd'⟩
end Go.Proofs.YtlnfeehokpkgiaaDoor.Wal
