/- The law 'WalRots'. -/
import Derived.Test.YtlnfeehokpkgiaaDoorFold32
import Derived.Test.YtlnfeehokpkgiaaDoorPlRot
namespace Go.Proofs.YtlnfeehokpkgiaaDoor.Wal
open Go Go.RowKit Mem Pl Disk Crc _root_.Go.Proofs.YtlnfeehokpkgiaaDoor.Frame
theorem rot_low (p : PM) (i k at_ : Int) (x : UInt8) : (p.rot i k at_ x).1.steps = p.steps ∧ (p.rot i k at_ x).1.waits = p.waits := by
  unfold PM.rot
  split
  · exact ⟨rfl, rfl⟩
  · split
    · exact ⟨rfl, rfl⟩
    · split <;> exact ⟨rfl, rfl⟩
theorem rot_ok {p : PM} (h : p.Ok) (i k at_ : Int) (x : UInt8) : (p.rot i k at_ x).1.Ok := by
  unfold PM.rot
  cases hn : p.num i with
  | none => exact h
  | some j =>
    dsimp only
    cases hd : p.devs[j]? with
    | none => exact h
    | some d =>
      dsimp only
      split
      · rename_i hc
        have hj : j < p.devs.length := (List.getElem?_eq_some_iff.1 hd).1
        have back : ∀ (q : Nat) (e : Dev), (p.devs.set j { d with has := d.has.set k.toNat ((d.at_ k.toNat).set at_.toNat (((d.at_ k.toNat).getD at_.toNat 0) ^^^ x)) })[q]? = some e → (q = j ∧ e = { d with has := d.has.set k.toNat ((d.at_ k.toNat).set at_.toNat (((d.at_ k.toNat).getD at_.toNat 0) ^^^ x)) }) ∨ (q ≠ j ∧ p.devs[q]? = some e) := fun q e he => by
          by_cases hq : q = j
          · subst hq
            rw [List.getElem?_set_self hj] at he
            injection he with he
            exact .inl ⟨rfl, he.symm⟩
          · rw [List.getElem?_set_ne (fun e => hq e.symm)] at he
            exact .inr ⟨hq, he⟩
        have hl : ∀ z : Dev, (p.devs.set j z).length = p.devs.length := fun _ => List.length_set
        constructor
        · show 1 ≤ (p.devs.set _ _).length; rw [hl]; exact h.n1
        · show (p.devs.set _ _).length ≤ 12; rw [hl]; exact h.n12
        · show (p.devs.set _ _).length = _; rw [hl]; exact h.shape
        · intro q e he
          rcases back q e he with ⟨rfl, rfl⟩ | ⟨_, he⟩
          · exact h.tape _ d hd
          · exact h.tape q e he
        · intro q e he
          rcases back q e he with ⟨rfl, rfl⟩ | ⟨_, he⟩
          · exact h.most _ d hd
          · exact h.most q e he
        · intro q e he ht
          rcases back q e he with ⟨rfl, rfl⟩ | ⟨_, he⟩
          · show (d.has.set _ _).length = _
            rw [List.length_set]; exact h.disk _ d hd ht
          · exact h.disk q e he ht
        · intro q e he ht
          rcases back q e he with ⟨rfl, rfl⟩ | ⟨_, he⟩
          · show (d.has.set _ _).length + _ ≤ _
            rw [List.length_set]; exact h.room _ d hd ht
          · exact h.room q e he ht
        · intro q e b he hb
          rcases back q e he with ⟨rfl, rfl⟩ | ⟨_, he⟩
          · rcases List.mem_or_eq_of_mem_set hb with hb | hb
            · exact h.sec _ d b hd hb
            · rw [hb, List.length_set]; exact h.at_len hd _
          · exact h.sec q e b he hb
        · intro y hy; show _ < (p.devs.set _ _).length; rw [hl]; exact h.wdev y hy
        · exact h.wlen
        · intro y hy e he
          rcases back _ e he with ⟨hq, rfl⟩ | ⟨_, he⟩
          · exact h.wplace y hy d (hq ▸ hd)
          · exact h.wplace y hy e he
        · intro q e he ht
          rcases back q e he with ⟨rfl, rfl⟩ | ⟨_, he⟩
          · show _ = List.range' (d.has.set _ _).length _
            rw [List.length_set]; exact h.wtape _ d hd ht
          · exact h.wtape q e he ht
        · exact h.now
        · exact h.fuse
      · exact h
/-- A byte that rots. -/
structure BitW where
  at_ : Int
  byte_ : Int
  by_ : Int
structure BitAt (W : World) (ad : Addr) (o : BitW) : Prop where
  i0 : inI o.at_
  i1 : inI o.byte_
  c0 : W.cell? ad = some (.int .i64 o.at_)
  c1 : W.cell? ⟨ad.block, ad.off + 1, none⟩ = some (.int .i64 o.byte_)
  c2 : W.cell? ⟨ad.block, ad.off + 2, none⟩ = some (.int .i64 o.by_)
def BitsAt (W : World) (A : Option Addr) (os : List BitW) : Prop := ∀ (i : Nat) (o : BitW), os[i]? = some o → ∃ ad, A = some ad ∧ BitAt W (ad.add (i * 3)) o
/-- A plant and a disk of it, the power on, no fuse. -/
def RawW (W w : World) (a dev N n : Nat) : Prop :=
  ∃ (F : Nat → Prop) (pm : PM) (H : List (List UInt8)), St W.heap.size w F a pm n ∧ Disk pm dev N H [] ∧ pm.off = false ∧ pm.fuse = none ∧ Below W.heap.size W w ∧ Tab w ∧ 0 < W.heap.size
section
variable {W w w' : World} {a d dev N n dm Gm : Nat}
theorem StdW.bootRaw (x : StdW W w a d dev N n dm Gm) (hn : n ≤ 800000000) (AK : Option Addr) (nk ck : Nat) (keep : List Int) (hk : IAt W AK keep) (hkl : keep.length = nk) (hkW : keep ≠ [] → ∀ ad, AK = some ad → ad.block < W.heap.size) (hnk : nk ≤ 9223372036854775807) :
    Calls Tryd.prog 17 #[.pointer (some ⟨a, 0, none⟩), .slice AK nk ck] w fun e w' => e = .returned (.tuple #[]) ∧ RawW W w' a dev N (n + 1) := by
  obtain ⟨F, K, pm, g, v, txs, dims, H, G, E, nx, h, hko, h1, h2, hl, ht, hgc⟩ := x
  refine (St.boot h.st hl.size (by omega) AK nk ck keep (hk.below hl) hkl (fun hne ad hA hF => by have h1 := (h.st.lt _ hF).1; have h2 := hkW hne ad hA; omega) hnk).mono ?_
  rintro e w' ⟨he, hs, hm⟩
  have hlow := h.st.bel hl hl.size hm
  obtain ⟨vs, h3, h4⟩ := h.disk.boot keep
  rw [List.sublist_nil.1 h4] at h3
  exact ⟨he, _, _, H, hs, h3, rfl, rfl, hlow, ht.below ((hm.mono hl.size fun _ _ h => h).below fun k hk hf => by have := (h.st.lt k hf).1; omega) hgc, hgc⟩
theorem RawW.rot (x : RawW W w a dev N n) (k at_ z : Int) :
    Calls Tryd.prog 27 #[.pointer (some ⟨a, 0, none⟩), .int .i64 (dev : Int), .int .i64 k, .int .i64 at_, .int .i64 z] w fun e w' => (∃ v, e = .returned v) ∧ RawW W w' a dev N n := by
  obtain ⟨F, pm, H, h, hd, hon, hfu, hl, ht, hgc⟩ := x
  refine (rot_any h.at_ h.ok (dev : Int) k at_ z).mono ?_
  rintro e w' ⟨rfl, hp, hm⟩
  obtain ⟨Hs, hd', ho, hf, _⟩ := hd.rot (hd.len h.ok) k at_ (Pl.byteOf z)
  obtain ⟨hl1, hl2⟩ := rot_low pm (dev : Int) k at_ (Pl.byteOf z)
  refine ⟨⟨_, rfl⟩, _, _, Hs, ⟨hp, rot_ok h.ok _ _ _ _, fun g hg => ?_, by rw [hl1]; exact h.steps, by rw [hl2]; exact h.waits⟩, hd', ho.trans hon, hf.trans hfu, h.bel hl hl.size hm, ht.below ((hm.mono hl.size fun _ _ h => h).below fun k hk hf => by have := (h.lt k hf).1; omega) hgc, hgc⟩
  rcases hg with hg | hg
  · exact ⟨(h.lt g hg).1, hm.lt (h.lt g hg).2⟩
  · exact ⟨Nat.le_trans hl.size hg.1, hg.2⟩
theorem RawW.low (x : RawW W w a dev N n) : Below W.heap.size W w := by
  obtain ⟨_, _, _, _, _, _, _, h, _⟩ := x
  exact h
end
def RtsR (W : World) (a n m : Nat) (iv : Value) (wr : World) : Prop := ∃ i : Nat, iv = .int .i64 (i : Int) ∧ i ≤ m ∧ RawW W wr a 0 40 n
theorem one_long : longM [[1]] = false := by decide +kernel
set_option maxRecDepth 100000 in
set_option maxHeartbeats 16000000 in
theorem lawWRots (AO : Option Addr) (m cap : Nat) (os : List OpW) (A1 : Option Addr) (m1 c1 : Nat) (bs : List BitW) (W : World) (ht : Tab W) (hgc : 0 < W.heap.size) (ho : OpsWAt W AO os) (hom : os.length = m) (hm : m ≤ 1048576)
    (hkW : ∀ o ∈ os, o.keep ≠ [] → ∀ ad, o.KA = some ad → ad.block < W.heap.size) (hb : BitsAt W A1 bs) (hbm : bs.length = m1) (hm1 : m1 ≤ 1048576) :
    Calls Tryd.prog 9 #[.slice AO m cap, .slice A1 m1 c1] W fun e W' => e = .returned (.bool true) ∧ Below W.heap.size W W' := by
  have HSH := Lib.hid (shown_any W ht hgc)
  have HT := Lib.hid ht
  have HO := Lib.hid ho
  have HOM := Lib.hid (⟨hom, hkW⟩ : _ ∧ _)
  have HBT := Lib.hid (⟨hb, hbm⟩ : _ ∧ _)
  clear ht ho hom hkW hb hbm
  go_enter Tryd.func9, Tryd.ntmps9
  go_wp2_with fail
  refine HSH.out.mono ?_
  rintro e w0 ⟨rfl, hb0⟩
  have HB0 := Lib.hid hb0
  have HMD := Lib.hid (made_any w0 1 40 (by omega) (by omega) (by omega) (by omega))
  clear hb0 HSH
  go_wp2_with fail
  refine HMD.out.mono ?_
  rintro e w1 ⟨a, rfl, hp, hb1⟩
  have hb01 := HB0.out.trans (hb1.mono HB0.out.size)
  have HBG := Lib.hid (begun_std (W := W) (St.new hp HB0.out.size (walPM_new (by omega) (by omega) (by omega) (by omega))) (walPM_disk 1 40 0 (by omega)) hb01 (by omega) rfl rfl (by omega) (HT.out.below hb01 hgc) hgc)
  clear hp hb1 hb01 HMD
  go_wp2_with fail
  refine HBG.out.mono ?_
  rintro e w2 ⟨d, rfl, hs2⟩
  have HS2 := Lib.hid hs2
  clear hs2 HBG
  go_wp2_with fail
  go_loopw [8] (fun iv wr => KpsR W a d 40 m iv wr) (fun iv _ => m - (intOf iv).toNat)
  case atStart => exact ⟨0, rfl, by omega, HS2.out.more (by omega) (by omega) (by omega)⟩
  case round =>
    obtain ⟨i, rfl, hi, hs⟩ := hrel
    have HS := Lib.hid hs
    have HLW := Lib.hid hs.low
    clear hs
    by_cases hlt : i < m
    · have hiI : (i : Int) < (m : Int) := by omega
      have hiN : decide (i < m) = true := decide_eq_true hlt
      obtain ⟨o, hoi⟩ : ∃ o, os[i]? = some o := ⟨_, List.getElem?_eq_getElem (by rw [HOM.out.1]; exact hlt)⟩
      obtain ⟨ad, hA, hcells, hok⟩ := HO.out i o hoi
      obtain ⟨x0, x1, x2, x3⟩ := hcells.below HLW.out
      have hs1 := HS.out.below (below_al' (w := wr) (.cells #[.int .i64 o.kind, .int .i64 o.N, .slice o.TA o.tn o.tc, .slice o.KA o.kn o.kc] 54))
      have HD := Lib.hid (hs1.do_ (by omega) (by omega) (by omega) o hok (HOM.out.2 o (List.mem_of_getElem? hoi)))
      subst hA
      clear hcells hok hoi hs1
      go_wp2_with fail
      refine HD.out.mono ?_
      rintro e w3 ⟨rfl, hs3⟩
      have HS3 := Lib.hid hs3
      clear hs3 HD x0 x1 x2 x3
      go_wp2_with fail
      go_roundw
      case rel => exact ⟨i + 1, by simp, by omega, HS3.out.more (by omega) (by omega) (by omega)⟩
      case measure => simp [intOf]; omega
    · obtain rfl : m = i := by omega
      have hiI : ¬ (m : Int) < (m : Int) := by omega
      have HBO := Lib.hid (HS.out.bootRaw (by omega) none 0 0 [] (.inl rfl) rfl (fun h => absurd rfl h) (by omega))
      go_wp2_with fail
      refine HBO.out.mono ?_
      rintro e w3 ⟨rfl, hs3⟩
      have HS3 := Lib.hid hs3
      clear hs3 HBO
      go_wp2_with fail
      go_loopw [11] (fun iv wr => RtsR W a (2 * 40 + 4 + 482 * m + 1) m1 iv wr) (fun iv _ => m1 - (intOf iv).toNat)
      case atStart => exact ⟨0, rfl, by omega, HS3.out⟩
      case round =>
        obtain ⟨i, rfl, hi, hs⟩ := hrel
        have HX := Lib.hid hs
        have hlw := hs.low
        by_cases hlt : i < m1
        · have hiI : (i : Int) < (m1 : Int) := by omega
          have hiN : decide (i < m1) = true := decide_eq_true hlt
          obtain ⟨o, hoi⟩ : ∃ o, bs[i]? = some o := ⟨_, List.getElem?_eq_getElem (by rw [HBT.out.2]; exact hlt)⟩
          obtain ⟨ad, hA, hcc⟩ := HBT.out.1 i o hoi
          have x0 := (hlw.cell (cell_lt hcc.c0)).trans hcc.c0
          have x1 := (hlw.cell (cell_lt hcc.c1)).trans hcc.c1
          have x2 := (hlw.cell (cell_lt hcc.c2)).trans hcc.c2
          have HW1 := Lib.hid (fun w : World => which_any w o.at_ 40 (by omega) (by omega) hcc.i0)
          have HW2 := Lib.hid (fun w : World => which_any w o.byte_ 64 (by omega) (by omega) hcc.i1)
          obtain ⟨q1, hq1⟩ : ∃ q, whichM o.at_ 40 = q := ⟨_, rfl⟩
          obtain ⟨q2, hq2⟩ : ∃ q, whichM o.byte_ 64 = q := ⟨_, rfl⟩
          rw [hq1] at HW1
          rw [hq2] at HW2
          have HRT := Lib.hid (RawW.rot (w := wr.drew) (by
            obtain ⟨F, pm, H, h, hd, hon, hfu, hl, ht, hgc⟩ := hs
            exact ⟨F, pm, H, h.below (below_drewN (Below.refl _ _) 1), hd, hon, hfu, hl.trans ((below_drewN (Below.refl wr.heap.size wr) 1).mono hl.size), ht, hgc⟩ : RawW W wr.drew a 0 40 _) (q1 : Int) (q2 : Int) o.by_)
          subst hA
          clear hs hlw hcc hoi hq1 hq2
          go_wp2_with fail
          refine Ord.region_ord [6, 12] [0, 1, 2, 3, 4, 5, 7, 8, 9, 10, 11, 13, 14, 15, 16, 17, 6, 12, 18] (by kernel_rfl) (by kernel_rfl) (by kernel_rfl) (by kernel_rfl) (Ord.ord_run [0, 1, 2, 3, 4, 5, 7, 8, 9, 10, 11, 13, 14, 15, 16, 17] [_, _, _, _, _, _, _, _, _, _, _, _, _, _, _, _] rfl (by kernel_rfl) ?_)
          go_wp2_with fail
          refine Ord.nx_ord (Ord.ord_one rfl ?_)
          go_wp2_with fail
          refine (HW1.out _).mono ?_
          rintro e _ ⟨rfl, rfl⟩
          go_wp2_with fail
          refine Ord.nx_and (Below.refl _ _) (Ord.ord_one rfl ?_)
          go_wp2_with fail
          refine (HW2.out _).mono ?_
          rintro e _ ⟨rfl, rfl⟩
          go_wp2_with fail
          refine Ord.nx_and (Below.refl _ _) (Ord.ord_all [_] rfl (by kernel_rfl) ?_)
          go_wp2_with fail
          refine HRT.out.mono ?_
          rintro e w5 ⟨⟨v5, rfl⟩, hs5⟩
          have HS5 := Lib.hid hs5
          clear hs5 HRT x0 x1 x2
          go_wp2_with fail
          refine Ord.nx_end ?_
          go_wp2_with fail
          go_roundw
          case rel => exact ⟨i + 1, by simp, by omega, HS5.out⟩
          case measure => simp [intOf]; omega
        · obtain rfl : m1 = i := by omega
          have hiI : ¬ (m1 : Int) < (m1 : Int) := by omega
          obtain ⟨F, pm, H, h, hd, hon, hfu, hl, htt, _⟩ := hs
          have HOP := Lib.hid (open_on h hd hl.size (by omega) hon (by omega) htt hgc)
          have HRW := Lib.hid (⟨h, hl, hfu, htt⟩ : _ ∧ _ ∧ _ ∧ _)
          clear h hd hl hon htt hlw hfu
          go_wp2_with fail
          refine HOP.out.mono ?_
          rintro e w6 ⟨F6, pm6, G, E, hf6, hG6, hE6, h6⟩
          have hlow6 := (hf6.desk (K := fun _ => False)).lows HRW.out.1 (fun _ h => h.elim) HRW.out.2.1.size
          have HB6 := Lib.hid (HRW.out.2.1.trans hlow6)
          have HT6 := Lib.hid (HRW.out.2.2.2.below hlow6 hgc)
          rcases h6 with ⟨_, rfl, _, _⟩ | ⟨hng, txs, nx, hends, ⟨g, v6, rfl, hd6, hon6, hg6, hgF6, hw6, ht6⟩ | ⟨_, hno, _⟩⟩
          · clear hf6 hG6 hE6 hlow6 HOP
            go_wp2_with fail
            go_ret
            exact ⟨rfl, HB6.out⟩
          rotate_left
          · exact absurd HRW.out.2.2.1 hno
          obtain ⟨A6, c6, rfl, hr6⟩ := ht6.rows
          have HR6 := Lib.hid hr6
          have HGW : Hid (W.heap.size ≤ g) := Lib.hid (Nat.le_trans HRW.out.2.1.size hg6)
          have HE := Lib.hid (⟨hng, hends, (newest_lt (virt H [])).1, (newest_lt (virt H [])).2, hG6, hE6⟩ : _ ∧ _ ∧ _ ∧ _ ∧ _ ∧ _)
          have HF6 := Lib.hid (⟨hf6, hd6, hon6, hgF6, hw6⟩ : _ ∧ _ ∧ _ ∧ _ ∧ _)
          clear hng hends hf6 hd6 hon6 hg6 hgF6 hw6 ht6 hr6 hG6 hE6 hlow6 HOP
          go_wp2_with fail
          have hxl : txs.length ≤ 40 := by
            have hch := HE.out.2.1.1.le
            rcases hch.2.1 with h | h <;> omega
          go_loopw [15] (fun iv wi => ∃ j : Nat, iv = .int .i64 (j : Int) ∧ j ≤ txs.length ∧ wi = w6) (fun iv _ => txs.length - (intOf iv).toNat)
          case atStart => exact ⟨0, rfl, by omega, rfl⟩
          case round =>
            obtain ⟨j, rfl, hj, rfl⟩ := hrel
            have hch := HE.out.2.1.1.le
            by_cases hjl : j < txs.length
            · have hjI : (j : Int) < (txs.length : Int) := by omega
              have hjN : decide (j < txs.length) = true := decide_eq_true hjl
              obtain ⟨tx, htx⟩ : ∃ t, txs[j]? = some t := ⟨_, List.getElem?_eq_getElem hjl⟩
              obtain ⟨ad, BA, cb, hA, hc, hra⟩ := HR6.out j tx htx
              have hlm := hch.2.2 tx (List.mem_of_getElem? htx)
              have hlb : tx.length ≤ 16 ∧ totM tx ≤ 1024 := by
                have := hlm
                unfold longM at this
                simp at this
                omega
              have hlg := rlong_any _ BA tx.length cb tx hra rfl (by omega) (by omega)
              rw [hlm] at hlg
              have HLG := Lib.hid hlg
              subst hA
              clear hra hlg hlm htx hch
              go_wp2_with fail
              refine HLG.out.mono ?_
              rintro e _ ⟨rfl, rfl⟩
              go_wp2_with fail
              go_roundw
              case rel => exact ⟨j + 1, by simp, by omega, by first | trivial | rfl⟩
              case measure => simp [intOf]; omega
            · obtain rfl : j = txs.length := by omega
              have hjI : ¬ (txs.length : Int) < (txs.length : Int) := by omega
              have hnx : nx ≤ 40 := by rcases hch.2.1 with h | h <;> omega
              have hb7 := below2 wr (.cells #[.int .u8 1] 5) (.cells #[.slice (some ⟨wr.heap.size, 0, none⟩) 1 1] 32)
              have hgl := Blk.lt HF6.out.2.2.2.2
              have HAP := Lib.hid (append_on (m := ⟨G + 1, E, nx, txs.length + 1⟩) (HF6.out.1.st.below hb7) HF6.out.2.1 (Nat.le_trans HB6.out.size hb7.size) (by omega) HF6.out.2.2.1 (HF6.out.2.2.2.2.below hb7) HF6.out.2.2.2.1 (nt := 1) (c := 1) (lit_one wr 1 5 32) rfl (by omega) (by decide) hnx (by rw [HE.out.2.2.2.2.2]; exact HE.out.2.2.2.1) (by have := HE.out.1; unfold badG at this; dsimp only; omega) (by dsimp only; omega) (HT6.out.below hb7 (Nat.lt_of_lt_of_le hgc HB6.out.size)) hgc)
              have HB7 := Lib.hid (HB6.out.trans (hb7.mono HB6.out.size))
              have HT7 := Lib.hid (HT6.out.below hb7 (Nat.lt_of_lt_of_le hgc HB6.out.size))
              have HGB : Hid (W.heap.size ≤ g ∧ g < ((wr.alloc (.cells #[.int .u8 1] 5)).alloc (.cells #[.slice (some ⟨wr.heap.size, 0, none⟩) 1 1] 32)).heap.size) := Lib.hid ⟨HGW.out, Nat.lt_of_lt_of_le hgl hb7.size⟩
              have HFU : Hid (pm6.fuse = none) := Lib.hid (HF6.out.1.fuse HRW.out.2.2.1)
              have HS7 := Lib.hid (HF6.out.1.st.below hb7)
              clear hch hb7 hgl
              go_wp2_with fail
              refine HAP.out.mono ?_
              rintro e w8 ⟨F8, pm8, hf8, h8⟩
              have hlow8 := (hf8.desk (K := fun k => k = g) rfl).lows HS7.out (fun k hk => by
                have hk' : k = g := hk
                rw [hk']
                exact ⟨HGB.out.1, HF6.out.2.2.2.1, HGB.out.2⟩) HB7.out.size
              rcases h8 with ⟨hl, _⟩ | ⟨_, _, rfl, hd8, hon8, hw8⟩ | ⟨_, rfl, hd8, hon8, hw8⟩ | ⟨_, _, hno, _⟩
              · rw [one_long] at hl
                cases hl
              rotate_right
              · exact absurd HFU.out hno
              · skip
                have HTR := Lib.hid (truncate_on hf8.st hd8 (Nat.le_trans HB7.out.size hf8.mods.size) (by omega) hon8 (by omega) hw8 hf8.out (by have := HE.out; unfold badG at this; dsimp only; omega) (HT7.out.below hlow8 hgc) (Nat.lt_of_lt_of_le hgc (Nat.le_trans HB7.out.size hf8.mods.size)))
                have HB8 := Lib.hid (HB7.out.trans hlow8)
                have HF8 := Lib.hid hf8
                clear hd8 hon8 hw8 hlow8 hf8 HAP
                go_wp2_with fail
                refine HTR.out.mono ?_
                rintro e w9 ⟨F9, pm9, hf9, ⟨rfl, _, _, _⟩ | ⟨_, hno, _⟩⟩
                rotate_left
                · exact absurd (HF8.out.fuse HFU.out) hno
                have hlow9 := (hf9.desk (K := fun k => k = g) rfl).lows HF8.out.st (fun k hk => by
                  have hk' : k = g := hk
                  rw [hk']
                  exact ⟨HGB.out.1, HF8.out.out, Nat.lt_of_lt_of_le HGB.out.2 HF8.out.mods.size⟩) (Nat.le_trans HB7.out.size HF8.out.mods.size)
                have HB9 := Lib.hid (HB8.out.trans hlow9)
                clear hf9 hlow9 HTR
                go_wp2_with fail
                go_ret
                exact ⟨rfl, HB9.out⟩
              · skip
                have HTR := Lib.hid (truncate_on hf8.st hd8 (Nat.le_trans HB7.out.size hf8.mods.size) (by omega) hon8 (by omega) hw8 hf8.out (by have := HE.out; unfold badG at this; dsimp only; omega) (HT7.out.below hlow8 hgc) (Nat.lt_of_lt_of_le hgc (Nat.le_trans HB7.out.size hf8.mods.size)))
                have HB8 := Lib.hid (HB7.out.trans hlow8)
                have HF8 := Lib.hid hf8
                clear hd8 hon8 hw8 hlow8 hf8 HAP
                go_wp2_with fail
                refine HTR.out.mono ?_
                rintro e w9 ⟨F9, pm9, hf9, ⟨rfl, _, _, _⟩ | ⟨_, hno, _⟩⟩
                rotate_left
                · exact absurd (HF8.out.fuse HFU.out) hno
                have hlow9 := (hf9.desk (K := fun k => k = g) rfl).lows HF8.out.st (fun k hk => by
                  have hk' : k = g := hk
                  rw [hk']
                  exact ⟨HGB.out.1, HF8.out.out, Nat.lt_of_lt_of_le HGB.out.2 HF8.out.mods.size⟩) (Nat.le_trans HB7.out.size HF8.out.mods.size)
                have HB9 := Lib.hid (HB8.out.trans hlow9)
                clear hf9 hlow9 HTR
                go_wp2_with fail
                go_ret
                exact ⟨rfl, HB9.out⟩
end Go.Proofs.YtlnfeehokpkgiaaDoor.Wal
