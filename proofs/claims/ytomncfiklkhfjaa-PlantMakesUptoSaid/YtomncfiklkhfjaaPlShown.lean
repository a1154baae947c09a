/- 'munimentlaw03.shown' holds: the document's examples of plants. -/
import Derived.Test.YtomncfiklkhfjaaPlLaw
namespace Go.Proofs.Ytomncfiklkhfjaa.Pl
open Go Go.RowKit Mem
def S0 : PM := { disks := [4], tapes := [2], devs := newDevs [4] [2], waits := [], off := false, fuse := none, steps := 0, now := 0 }
def S1 : PM := (S0.write 0 1 (fullB 1)).1
def S2 : PM := S1.boot []
def S3 : PM := (S2.append 1 (fullB 2)).1
def S4 : PM := S3.setFuse 0
def S5 : PM := (S4.flush 1).1
theorem s_new : newM [4] [2] = some S0 := by kernel_rfl
theorem s_w : (S0.write 0 1 (fullB 1)).2 = 0 := by kernel_rfl
theorem s_r1 : S1.read 0 1 = (some (fullB 1), 0) := by kernel_rfl
theorem s_r2 : S2.read 0 1 = (some (fullB 0), 0) := by kernel_rfl
theorem s_a : (S2.append 1 (fullB 2)).2 = (0, 0) := by kernel_rfl
theorem s_f : (S4.flush 1).2 = 2 := by kernel_rfl
theorem s_off : S5.off = true := by kernel_rfl
theorem s_steps : S5.steps = 2 := by kernel_rfl
theorem iat_new (w : World) (zs : List Int) (k : Nat) (hk : w.heap.size = k) (t : TypeId) : IAt (w.alloc (.cells (zs.map intV).toArray t)) (some ⟨k, 0, none⟩) zs := by
  subst hk
  refine .inr ⟨_, rfl, fun i z hz => ?_⟩
  have := (Blk.new w t (zs.map intV).toArray).cell i
  have e : (Addr.add ⟨w.heap.size, 0, none⟩ i) = ⟨w.heap.size, i, none⟩ := by
    unfold Addr.add
    split
    · rename_i h; subst h; rfl
    · simp
  rw [e, this]
  simp [hz, intV]
set_option maxRecDepth 100000 in
set_option maxHeartbeats 8000000 in
theorem shown_any (w : World) : Calls Try.prog 25 #[] w fun e w' => e = .returned (.bool true) ∧ Below w.heap.size w w' := by
  go_enter Try.func25, Try.ntmps25
  go_wp2_with fail
  have hn := new_any ((w.alloc (.cells #[.int .i64 4] 3)).alloc (.cells #[.int .i64 2] 3)) (some ⟨w.heap.size, 0, none⟩) (some ⟨w.heap.size + 1, 0, none⟩) 1 1 1 1 [4] [2] ((iat_new w [4] _ rfl _).below (below_al' _)) (iat_new _ [2] _ (by simp) _) rfl rfl (by omega) (by omega)
  rw [s_new] at hn
  refine hn.mono ?_
  clear hn
  rintro e w1 ⟨hb1, ⟨h, _⟩ | ⟨a, p, h, rfl, hp⟩⟩
  · cases h
  injection h with h
  subst h
  have hB0 : w.heap.size ≤ ((w.alloc (.cells #[.int .i64 4] 3)).alloc (.cells #[.int .i64 2] 3)).heap.size := by simp; omega
  have HW1 : Hid (Below w.heap.size w w1) := Lib.hid ((((Below.refl w.heap.size w).alloc (Nat.le_refl _) _).alloc (by simp) _).trans (hb1.mono hB0))
  obtain ⟨F, hs⟩ : ∃ F, St w.heap.size w1 F a S0 0 := ⟨_, St.new hp hB0 s_new⟩
  have HS1 := Lib.hid hs
  clear hb1 hp hB0 hs
  go_wp2_with fail
  have hf := full_any w1 1
  rw [show V8 1 = 1 from rfl] at hf
  refine hf.mono ?_
  clear hf
  rintro e w2 ⟨gRX, rfl, ho2, hb2⟩
  have RX2 := Lib.hid (Held.of_own ho2 fun g hg => (HS1.out.lt g hg).2)
  clear ho2
  have HW2 := Lib.hid (HW1.out.trans (hb2.mono HW1.out.size))
  have HS2 := Lib.hid (HS1.out.below hb2)
  clear HW1 HS1 
  clear hb2
  go_wp2_with fail
  have hc := HS2.out.write HW2.out.size (by omega) 0 1 (some ⟨gRX, 0, none⟩) 64 64 (fullB 1) RX2.out.1 (fullB_len 1)
  rw [s_w] at hc
  refine hc.mono ?_
  clear hc
  rintro e w3 ⟨rfl, hs3, hm3⟩
  have HW3 := Lib.hid (St.bel HS2.out HW2.out HW2.out.size hm3)
  have HS3 : Hid (St w.heap.size w3 _ a S1 1) := Lib.hid hs3
  have RX3 := Lib.hid (RX2.out.mods hm3)
  clear hs3 hm3 HW2 HS2 RX2
  clear RX3
  go_wp2_with fail
  have hc := HS3.out.read (by omega) 0 1
  rw [s_r1] at hc
  refine hc.mono ?_
  clear hc
  rintro e w4 ⟨ARA, mRA, cRA, rfl, hlRA, hh4, hb4⟩
  have RA4 : Hid (Held w4 _ ARA (fullB 1)) := Lib.hid hh4
  have LRA : Hid (mRA = ((fullB 1)).length) := Lib.hid hlRA
  clear hh4 hlRA
  have HW4 := Lib.hid (HW3.out.trans (hb4.mono HW3.out.size))
  have HS4 := Lib.hid (HS3.out.below hb4)
  clear HW3 HS3 
  clear hb4
  go_wp2_with fail
  have hc := HS4.out.boot HW4.out.size (by omega) none 0 0 [] (.inl rfl) rfl (fun _ ad h => by cases h) (by omega)
  refine hc.mono ?_
  clear hc
  rintro e w5 ⟨rfl, hs5, hm5⟩
  have HW5 := Lib.hid (St.bel HS4.out HW4.out HW4.out.size hm5)
  have HS5 : Hid (St w.heap.size w5 _ a S2 2) := Lib.hid hs5
  have RA5 := Lib.hid (RA4.out.mods hm5)
  clear hs5 hm5 HW4 HS4 RA4
  go_wp2_with fail
  have hc := HS5.out.read (by omega) 0 1
  rw [s_r2] at hc
  refine hc.mono ?_
  clear hc
  rintro e w6 ⟨ARB, mRB, cRB, rfl, hlRB, hh6, hb6⟩
  have RB6 : Hid (Held w6 _ ARB (fullB 0)) := Lib.hid hh6
  have LRB : Hid (mRB = ((fullB 0)).length) := Lib.hid hlRB
  clear hh6 hlRB
  have HW6 := Lib.hid (HW5.out.trans (hb6.mono HW5.out.size))
  have HS6 := Lib.hid (HS5.out.below hb6)
  have RA6 := Lib.hid (RA5.out.below hb6)
  clear HW5 HS5 RA5
  clear hb6
  go_wp2_with fail
  have hf := full_any w6 2
  rw [show V8 2 = 2 from rfl] at hf
  refine hf.mono ?_
  clear hf
  rintro e w7 ⟨gRY, rfl, ho7, hb7⟩
  have RY7 := Lib.hid (Held.of_own ho7 fun g hg => (HS6.out.lt g hg).2)
  clear ho7
  have HW7 := Lib.hid (HW6.out.trans (hb7.mono HW6.out.size))
  have HS7 := Lib.hid (HS6.out.below hb7)
  have RA7 := Lib.hid (RA6.out.below hb7)
  have RB7 := Lib.hid (RB6.out.below hb7)
  clear HW6 HS6 RA6 RB6
  clear hb7
  go_wp2_with fail
  have hc := HS7.out.append HW7.out.size (by omega) 1 (some ⟨gRY, 0, none⟩) 64 64 (fullB 2) RY7.out.1 (fullB_len 2)
  rw [s_a] at hc
  refine hc.mono ?_
  clear hc
  rintro e w8 ⟨rfl, hs8, hm8⟩
  have HW8 := Lib.hid (St.bel HS7.out HW7.out HW7.out.size hm8)
  have HS8 : Hid (St w.heap.size w8 _ a S3 3) := Lib.hid hs8
  have RA8 := Lib.hid (RA7.out.mods hm8)
  have RB8 := Lib.hid (RB7.out.mods hm8)
  have RY8 := Lib.hid (RY7.out.mods hm8)
  clear hs8 hm8 HW7 HS7 RA7 RB7 RY7
  clear RY8
  go_wp2_with fail
  have hc := HS8.out.setFuse HW8.out.size 0 (by omega)
  refine hc.mono ?_
  clear hc
  rintro e w9 ⟨rfl, hs9, hm9⟩
  have HW9 := Lib.hid (St.bel HS8.out HW8.out HW8.out.size hm9)
  have HS9 : Hid (St w.heap.size w9 _ a S4 4) := Lib.hid hs9
  have RA9 := Lib.hid (RA8.out.mods hm9)
  have RB9 := Lib.hid (RB8.out.mods hm9)
  clear hs9 hm9 HW8 HS8 RA8 RB8
  go_wp2_with fail
  have hc := HS9.out.flush HW9.out.size (by omega) 1
  rw [s_f] at hc
  refine hc.mono ?_
  clear hc
  rintro e w10 ⟨rfl, hs10, hm10⟩
  have HW10 := Lib.hid (St.bel HS9.out HW9.out HW9.out.size hm10)
  have HS10 : Hid (St w.heap.size w10 _ a S5 5) := Lib.hid hs10
  have RA10 := Lib.hid (RA9.out.mods hm10)
  have RB10 := Lib.hid (RB9.out.mods hm10)
  clear hs10 hm10 HW9 HS9 RA9 RB9
  go_wp2_with fail
  have hf := full_any w10 1
  rw [show V8 1 = 1 from rfl] at hf
  refine hf.mono ?_
  clear hf
  rintro e w11 ⟨gRZ, rfl, ho11, hb11⟩
  have RZ11 := Lib.hid (Held.of_own ho11 fun g hg => (HS10.out.lt g hg).2)
  clear ho11
  have HW11 := Lib.hid (HW10.out.trans (hb11.mono HW10.out.size))
  have HS11 := Lib.hid (HS10.out.below hb11)
  have RA11 := Lib.hid (RA10.out.below hb11)
  have RB11 := Lib.hid (RB10.out.below hb11)
  clear HW10 HS10 RA10 RB10
  clear hb11
  go_wp2_with fail
  have hc := same_any ARA (some ⟨gRZ, 0, none⟩) (fullB 1) (fullB 1) mRA 64 cRA 64 w11 LRA.out.symm (fullB_len 1) RA11.out.1 RZ11.out.1
  rw [show decide ((fullB 1) = (fullB 1)) = true by kernel_rfl] at hc
  refine hc.mono ?_
  clear hc
  rintro e _ ⟨rfl, rfl⟩
  go_wp2_with fail
  clear RZ11
  have hf := full_any w11 0
  rw [show V8 0 = 0 from rfl] at hf
  refine hf.mono ?_
  clear hf
  rintro e w12 ⟨gRU, rfl, ho12, hb12⟩
  have RU12 := Lib.hid (Held.of_own ho12 fun g hg => (HS11.out.lt g hg).2)
  clear ho12
  have HW12 := Lib.hid (HW11.out.trans (hb12.mono HW11.out.size))
  have HS12 := Lib.hid (HS11.out.below hb12)
  have RA12 := Lib.hid (RA11.out.below hb12)
  have RB12 := Lib.hid (RB11.out.below hb12)
  clear HW11 HS11 RA11 RB11
  clear hb12
  go_wp2_with fail
  have hc := same_any ARB (some ⟨gRU, 0, none⟩) (fullB 0) (fullB 0) mRB 64 cRB 64 w12 LRB.out.symm (fullB_len 0) RB12.out.1 RU12.out.1
  rw [show decide ((fullB 0) = (fullB 0)) = true by kernel_rfl] at hc
  refine hc.mono ?_
  clear hc
  rintro e _ ⟨rfl, rfl⟩
  go_wp2_with fail
  refine (on_any HS12.out.at_).mono ?_
  rw [s_off]
  rintro e _ ⟨rfl, rfl⟩
  go_wp2_with fail
  refine (steps_any HS12.out.at_).mono ?_
  rw [s_steps]
  rintro e _ ⟨rfl, rfl⟩
  go_wp2_with fail
  go_ret
  exact ⟨rfl, HW12.out⟩
end Go.Proofs.Ytomncfiklkhfjaa.Pl
