/- sporranlaw15.speaks: the example of the document. -/
import Derived.Test.YtnjilbgcflbghaaXF0
import Derived.Test.YtnjilbgcflbghaaXModel5
set_option linter.all false
namespace Go.Proofs
open Go Go.X

def nameA : ByteArray := ByteArray.mk #[97]
def block7 : List Nat := 7 :: List.replicate 47 0
def opA : OpV := ⟨1, nameA, ByteArray.mk #[], 0, 1, zeros48⟩
def opB : OpV := ⟨3, nameA, ByteArray.mk #[], 0, 0, block7⟩
def opC : OpV := ⟨5, nameA, ByteArray.mk #[], 0, 0, zeros48⟩
theorem opA_ok : opA.OK := ⟨by decide, by decide, by decide, rfl⟩
theorem opB_ok : opB.OK := ⟨by decide, by decide, by decide, rfl⟩
theorem opC_ok : opC.OK := ⟨by decide, by decide, by decide, rfl⟩
theorem addA : addCode [] opA.name (newVol opA) 0 = 0 := by decide
theorem one_of {ks : List (List Nat)} {a : List Nat} (hn : ks.Nodup) (h : ∀ x, x ∈ ks ↔ x = a) : ks.length = 1 := by
  match ks, hn, h with
  | [], _, h => exact absurd ((h a).2 rfl) (by simp)
  | [x], _, _ => rfl
  | x :: y :: l, hn, h =>
    have h1 := (h x).1 (by simp)
    have h2 := (h y).1 (by simp)
    rw [List.nodup_cons] at hn
    exact absurd (by simp [h1, h2]) hn.1

def answered (e : Int) (t : Bool) (b : List Nat) : Array Value := (ansL e t b nilV).toArray
theorem answered_size {e : Int} {t : Bool} {b : List Nat} (h : b.length = 48) : (answered e t b).size = 51 := ans_size h

set_option maxHeartbeats 1000000 in
set_option maxRecDepth 100000 in
theorem law15_speaks_spec {w : World} : CallF Try.prog 34 #[] w fun r w' => r = .bool true ∧ Ext w w' := by
  refine sporranlaw15_speaks_ok _ w ?_
  unfold sporranlaw15_speaks
  refine model_New_spec.mono ?_
  rintro _ w1 ⟨m, rv, rfl, hm1, hx1, hmf, hrf⟩
  refine ⟨_, rfl, opA.cells, rfl, ?_⟩
  refine (model_Do_create hm1 opA_ok rfl (by decide)).mono ?_
  rintro _ w2 ⟨b, r, rfl, hm2, _, hc2, hb, hr⟩
  rw [addA] at hm2
  have hm2 := hm2 rfl
  rw [addA]
  have hx2 : Ext w w2 := hx1.step hc2 (fun _ _ h => h.elim) (fun k hk h => by omega)
  have hs1 := hx1.size
  refine ⟨_, rfl, ?_⟩
  refine New.mk fun b3 w3 hb3 hs3 hblk3 hx3 => ?_
  refine StN.all hblk3 (ans_size zeros48_len) (ans_one rfl) (by rw [ans_zero]; exact ans_size zeros48_len) ?_
  intro w4 hblk4 hc4 hz4
  have hx24 : Ext w2 w4 := hx3.step hc4 (fun _ _ h => h.elim) (fun k hk h => by omega)
  have hm4 := hm2.ext hx24
  refine ⟨(u8s block7).toArray, rfl, opB.cells, rfl, ?_⟩
  generalize hMM : ([] ++ [(opA.name, b, r, newVol opA)] : Vols) = MM at *
  have hMM' : MM = [(nameA, b, r, ⟨1, false, []⟩)] := hMM ▸ rfl
  refine (model_Do_block hm4 opB_ok (.inl rfl)).mono ?_
  rintro _ w5 ⟨rfl, hm5, hc5, hl5⟩
  have hbB : blockS MM opB = ([(nameA, b, r, ⟨1, false, [(0, block7)]⟩)], 0, false, zeros48) := by
    subst hMM'
    simp [blockS, findCode, mget, opB, updV, mset]
  rw [hbB] at hm5 hl5
  rw [hbB]
  have hfoot : MM.foot = [b, r] := by subst hMM'; rfl
  rw [hfoot] at hc5
  have hsz2 := hx2.size
  have hfr : ∀ k, k ∈ [b, r] → w.heap.size ≤ k := by
    intro k hk
    simp only [List.mem_cons, List.not_mem_nil, or_false] at hk
    rcases hk with rfl | rfl <;> omega
  have hbr : ∀ k, k ∈ [b, r] → k < w2.heap.size := fun k hk => hm2.lt (.inr (.inr (hfoot ▸ hk)))
  have hx5 : Ext w w5 := (hx2.trans hx24).step hc5 (fun _ _ h => h.elim) (fun k hk h => by have := hfr k h; omega)
  have h3f : ¬ b3 ∈ [b, r] := fun h => by have := hbr _ h; omega
  have hblk5 := hblk4.ch hc5 h3f
  refine ⟨_, rfl, ?_⟩
  refine New.mk fun b6 w6 hb6 hs6 hblk6 hx6 => ?_
  refine StN.all hblk6 (ans_size zeros48_len) (ans_one rfl) (by rw [ans_zero]; exact ans_size zeros48_len) ?_
  intro w7 hblk7 hc7 hz7
  have hx57 : Ext w5 w7 := hx6.step hc7 (fun _ _ h => h.elim) (fun k hk h => by omega)
  have hm7 := hm5.ext hx57
  refine ⟨opC.cells, rfl, ?_⟩
  refine (model_Do_block hm7 opC_ok (.inr (.inr rfl))).mono ?_
  rintro _ w8 ⟨rfl, hm8, hc8, hl8⟩
  have hbC : blockS [(nameA, b, r, ⟨1, false, [(0, block7)]⟩)] opC = ([(nameA, b, r, ⟨1, false, [(0, block7)]⟩)], 0, true, block7) := by
    simp [blockS, findCode, mget, opC]
  rw [hbC] at hm8 hl8
  rw [hbC]
  have hfoot2 : Vols.foot [(nameA, b, r, ⟨1, false, [(0, block7)]⟩)] = [b, r] := rfl
  rw [hfoot2] at hc8
  have hsz24 := hx24.size
  have hsz5 := hc5.size
  have hsz57 := hx57.size
  have hx8 : Ext w w8 := (hx5.trans hx57).step hc8 (fun _ _ h => h.elim) (fun k hk h => by have := hfr k h; omega)
  have h6f : ¬ b6 ∈ [b, r] := fun h => by have := hbr _ h; omega
  have hblk3' := (hblk5.ext hx57).ch hc8 h3f
  have hblk6' := hblk7.ch hc8 h6f
  refine ⟨_, rfl, ?_⟩
  refine New.mk fun b9 w9 hb9 hs9 hblk9 hx9 => ?_
  refine StN.all hblk9 (ans_size hl8) (ans_one rfl) (by rw [ans_zero]; exact ans_size zeros48_len) ?_
  intro w10 hblk10 hc10 hz10
  have hx810 : Ext w8 w10 := hx9.step hc10 (fun _ _ h => h.elim) (fun k hk h => by omega)
  simp only [addr_add, Nat.zero_add]
  refine Ld.blk (hblk3'.ext hx810) rfl ⟨fun _ => ?_, fun h => absurd h (by simp)⟩
  refine Ld.blk (hblk6'.ext hx810) rfl ⟨fun _ => ?_, fun h => absurd h (by simp)⟩
  refine Ld.blk hblk10 rfl ⟨fun _ => ?_, fun h => absurd h (by simp)⟩
  refine LdN.blk (ds := (u8s block7).toArray) hblk10 (fun j v hj => ?_) rfl ?_
  · have hj' : (u8s block7)[j]? = some v := by simpa using hj
    have hjl : j < (u8s block7).length := (List.getElem?_eq_some_iff.1 hj').1
    rw [show 2 + j = j + 1 + 1 from by omega]
    simp only [ansL, List.getElem?_toArray, List.getElem?_cons_succ]
    rw [List.getElem?_append_left hjl]
    exact hj'
  refine ⟨(u8s block7).toArray, rfl, true, ?_, fun _ => ?_, fun h => (by cases h)⟩
  · obtain ⟨i, hi, _⟩ := Try.ti5
    have := EqOK.u8s (P := Try.prog) (t := 65) (e := 5) (n := 48) (i := i) Try.underlying65 Try.underlying5 hi (by kernel_rfl) (by kernel_rfl) (xs := block7) (ys := block7) rfl rfl
    simpa using this
  refine (model_Distinct_spec (hm8.ext hx810)).mono ?_
  rintro _ w11 ⟨⟨ks, rfl, hnd, hks⟩, hx11⟩
  have h1 : ks.length = 1 := one_of (a := block7) hnd fun x => by rw [hks x]; simp [blocksOf]
  refine ⟨_, rfl, by rw [h1]; rfl, (hx8.trans hx810).trans hx11⟩
end Go.Proofs
