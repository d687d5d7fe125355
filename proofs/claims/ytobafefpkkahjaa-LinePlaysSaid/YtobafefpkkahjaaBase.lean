/- What all laws of this chapter use: a slice of bytes as a string; two events that are one; 'known'. -/
import Derived.Test.YtobafefpkkahjaaNext
import Derived.Lib.SlBytesConst
import Derived.Lib.SmallJoins
namespace Go.Proofs.Ytobafefpkkahjaa
open Go.RowKit

def Str (bs : List UInt8) : ByteArray := ⟨bs.toArray⟩

theorem strOfNums_N8 (bs : List UInt8) : strOfNums (N8 bs) = Str bs := by
  show (⟨((N8 bs).map fun n => UInt8.ofNat n.toNat).toArray⟩ : ByteArray) = ⟨bs.toArray⟩
  rw [show ((N8 bs).map fun n => UInt8.ofNat n.toNat) = bs from bytesOf_N8 bs]

theorem Rd.convert {w : World} {r : Option Addr} {bs : List UInt8} (h : Rd w r bs) (c : Nat) : (convert 22 9 (.slice r bs.length c)).run Try.prog w = .ok (.string (Str bs)) w := by
  by_cases h0 : 0 < bs.length
  · obtain ⟨g, off, rfl, _, hc⟩ := h h0
    have := run_convert_bytes_arg (P := Try.prog) w 22 5 Try.underlying22 Try.underlying5 g off bs.length c (N8 bs) (by simp) hc 9 Try.underlying9
    rw [strOfNums_N8] at this
    exact this
  · have hb : bs = [] := List.eq_nil_of_length_eq_zero (by omega)
    subst hb
    exact run_convert_bytes_zero w 22 5 Try.underlying22 Try.underlying5 r c 9 Try.underlying9

theorem Str_toList (bs : List UInt8) : (Str bs).toList = bs := by rw [← strOfNums_N8, Lib.strOfNums_toList, bytesOf_N8]

theorem str_eq (bs : List UInt8) : ((Str bs).toList == (Str bs).toList) = true := by simp

theorem same_true (k : Int) (r1 r2 : Option Addr) (c1 c2 : Nat) (data : List UInt8) (w : World) (h1 : Rd w r1 data) (h2 : Rd w r2 data) :
    Calls Try.prog 12 #[.agg #[.int .i64 k, .slice r1 data.length c1], .agg #[.int .i64 k, .slice r2 data.length c2]] w fun e w' => e = .returned (.bool true) ∧ Below w.heap.size w w' := by
  have kk : (k == k) = true := by simp
  have t1 : ∀ o1 o2, (convert 22 9 (.slice r1 data.length c1)).run Try.prog ((w.alloc o1).alloc o2) = .ok (.string (Str data)) ((w.alloc o1).alloc o2) := fun o1 o2 =>
    ((h1.touch (Touch.alloc w o1 (fun _ => False)) (fun ⟨_, _, h⟩ => h)).touch (Touch.alloc _ o2 (fun _ => False)) (fun ⟨_, _, h⟩ => h)).convert c1
  have t2 : ∀ o1 o2, (convert 22 9 (.slice r2 data.length c2)).run Try.prog ((w.alloc o1).alloc o2) = .ok (.string (Str data)) ((w.alloc o1).alloc o2) := fun o1 o2 =>
    ((h2.touch (Touch.alloc w o1 (fun _ => False)) (fun ⟨_, _, h⟩ => h)).touch (Touch.alloc _ o2 (fun _ => False)) (fun ⟨_, _, h⟩ => h)).convert c2
  have se := str_eq data
  clear h1 h2
  go_enter Try.func12, Try.ntmps12
  go_wp2
  go_ret
  exact ⟨rfl, ((Below.refl _ _).alloc (Nat.le_refl _) _).alloc (by simp) _⟩

/-- A Lines of the call's own: w0 is the world in which the call began. -/
structure Own (w0 w : World) (L : Nat) (a : Option Addr) (cap : Nat) (bs : List UInt8) (want : Int) (dr : Bool) : Prop where
  x : XAt w L a cap bs want dr
  bel : Below w0.heap.size w0 w
  lo : w0.heap.size ≤ L
  lo' : ∀ ad, a = some ad → w0.heap.size ≤ ad.block

theorem Own.foot {w0 w : World} {L : Nat} {a : Option Addr} {cap : Nat} {bs : List UInt8} {want : Int} {dr : Bool} (h : Own w0 w L a cap bs want dr) : ∀ k, Foot L a k → w0.heap.size ≤ k := by
  rintro k (rfl | ⟨ad, had, rfl⟩)
  · exact h.lo
  · exact h.lo' ad had

theorem Own.step {w0 w w' : World} {L : Nat} {a a' : Option Addr} {cap cap' : Nat} {bs bs' : List UInt8} {want want' : Int} {dr dr' : Bool} (h : Own w0 w L a cap bs want dr) (hx : XAt w' L a' cap' bs' want' dr') (ht : Touch w w' (Foot L a)) (ha : After w a a') : Own w0 w' L a' cap' bs' want' dr' := by
  refine ⟨hx, h.bel.trans (ht.below h.bel.size (fun i hi hf => by have := h.foot i hf; omega)), h.lo, fun ad had => ?_⟩
  rcases ha ad had with ⟨bd, hb, e⟩ | h1
  · rw [← e]; exact h.lo' bd hb
  · have := h.bel.size; omega

theorem Own.touch {w0 w w' : World} {L : Nat} {a : Option Addr} {cap : Nat} {bs : List UInt8} {want : Int} {dr : Bool} (h : Own w0 w L a cap bs want dr) (hb : Below w.heap.size w w') : Own w0 w' L a cap bs want dr :=
  ⟨h.x.touch (Touch.grows hb (fun _ => False)) (fun _ _ h => h), h.bel.trans (hb.mono h.bel.size), h.lo, h.lo'⟩

theorem Own.alloc {w0 w : World} {L : Nat} {a : Option Addr} {cap : Nat} {bs : List UInt8} {want : Int} {dr : Bool} (h : Own w0 w L a cap bs want dr) (o : Obj) : Own w0 (w.alloc o) L a cap bs want dr := h.touch ((Below.refl _ _).alloc (Nat.le_refl _) o)

theorem Own.new (w0 w : World) (h : Below w0.heap.size w0 w) : Own w0 (w.alloc (.cells #[.slice none 0 0, .int .i64 (-1), .bool false] 54)) w.heap.size none 0 [] (-1) false :=
  ⟨XAt.new w, h.alloc h.size _, h.size, fun _ h => by cases h⟩

theorem lit_rd (w : World) (ys : List UInt8) (fz : Nat × Nat) (g : Nat) (hg : g = w.heap.size) : Rd (w.alloc (.cells (C8 ys).toArray 5 fz)) (some ⟨g, 0, none⟩) ys := by
  subst hg
  intro _
  refine ⟨_, 0, rfl, by simp, fun j hj => ?_⟩
  rw [blk_cell (blk_new w _), Nat.zero_add, List.getElem?_toArray]
  exact C8_at ys j hj

set_option maxHeartbeats 800000 in
theorem known_any (w : World) : Calls Try.prog 13 #[] w fun e w' => e = .returned (.bool true) ∧ Below w.heap.size w w' := by
  have kc : (convert 22 22 (.slice (some ⟨w.heap.size + 1, 0, none⟩) 4 4)).run Try.prog ((w.alloc (.cells #[.slice none 0 0, .int .i64 (-1), .bool false] 54)).alloc (.cells #[.int .u8 97, .int .u8 13, .int .u8 10, .int .u8 98] 5)) =
      .ok (.slice (some ⟨w.heap.size + 1, 0, none⟩) 4 4) ((w.alloc (.cells #[.slice none 0 0, .int .i64 (-1), .bool false] 54)).alloc (.cells #[.int .u8 97, .int .u8 13, .int .u8 10, .int .u8 98] 5 (4, 5))) :=
    Joins.run_convert_bytes_const_at _ 22 5 _ 4 4 _ (by simp) Try.underlying22 Try.underlying5
  go_enter Try.func13, Try.ntmps13
  go_wp2_with fail
  refine (new_any w).mono ?_
  rintro e w1 ⟨rfl, rfl⟩
  go_wp2_with fail
  clear kc
  have hx0 := (Own.new w w (Below.refl _ _)).alloc (.cells #[.int .u8 97, .int .u8 13, .int .u8 10, .int .u8 98] 5 (4, 5))
  have hr0 := lit_rd (w.alloc (.cells #[.slice none 0 0, .int .i64 (-1), .bool false] 54)) [97, 13, 10, 98] (4, 5) (w.heap.size + 1) (by simp)
  refine (feed_ok w.heap.size none 0 [] (-1) false (some ⟨w.heap.size + 1, 0, none⟩) 4 [97, 13, 10, 98] _ hx0.x hr0 (by decide)).mono ?_
  rintro e w1 ⟨a1, cap1, rfl, hx1, ht1, haf1⟩
  have H1 := Lib.hid (hx0.step hx1 ht1 haf1)
  clear hx0 hr0 hx1 ht1 haf1
  go_wp2_with fail
  have hstep : step ([] ++ [97, 13, 10, 98]) (-1) false = ⟨1, [97], true, [98], -1, false⟩ := by rfl
  refine (next_any w.heap.size a1 cap1 _ (-1) false _ H1.out.x (by decide) (by decide)).mono ?_
  rw [hstep]
  rintro e w2 ⟨r, rc, a2, cap2, rfl, hr, hra, hx2, ht2, haf2⟩
  have H2 := Lib.hid ((H1.out.step hx2 ht2 (haf2.after _)).alloc (.cells #[.int .i64 1, .slice r 1 rc] 30))
  have HF2 : Hid (¬ Foot w.heap.size a2 w2.heap.size) := fun h => by have := hx2.inA_lt _ h; omega
  have HR := Lib.hid (hr.touch (Touch.alloc w2 (.cells #[.int .i64 1, .slice r 1 rc] 30) (fun _ => False)) (fun ⟨_, _, h⟩ => h))
  have HNR : Hid (∀ M : Nat → Prop, (∀ k, M k → Foot w.heap.size a2 k) → ¬ At r M) := fun M hM ⟨ad, had, hm⟩ => by
    have h1 := H1.out.x.inA_lt ad.block (by
      rcases hM _ hm with h | ⟨bd, hb, e⟩
      · exact .inl h
      · rw [← e]; exact .inr (haf2 bd hb))
    rcases hra ad had with ⟨_, h, _⟩ | h
    · cases h
    · omega
  clear hr hra hx2 ht2 haf2 hstep
  go_wp2_with fail
  have hstep : step [98] (-1) false = ⟨0, [], false, [98], -1, false⟩ := by rfl
  refine (next_any w.heap.size a2 cap2 _ (-1) false _ H2.out.x (by decide) (by decide)).mono ?_
  rw [hstep]
  rintro e w3 ⟨r3, rc3, a3, cap3, rfl, hr3, hra3, hx3, ht3, haf3⟩
  have hev := blk_touch (blk_new w2 (.cells #[.int .i64 1, .slice r 1 rc] 30)) ht3 HF2.out
  have c0 : w3.cell? ⟨w2.heap.size, 0, none⟩ = some (.int .i64 1) := blk_cell hev
  have c1 : w3.cell? ⟨w2.heap.size, 1, none⟩ = some (.slice r 1 rc) := blk_cell hev
  have hlt := blk_lt hev
  have H3 := Lib.hid ((H2.out.step hx3 ht3 (haf3.after _)).alloc (.cells #[.int .i64 0, .slice r3 0 rc3] 30))
  have hcv : (convert 22 9 (.slice r 1 rc)).run Try.prog (w3.alloc (.cells #[.int .i64 0, .slice r3 0 rc3] 30)) = .ok (.string (Str [97])) (w3.alloc (.cells #[.int .i64 0, .slice r3 0 rc3] 30)) :=
    ((HR.out.touch ht3 (HNR.out _ (fun _ h => h))).touch (Touch.alloc w3 (.cells #[.int .i64 0, .slice r3 0 rc3] 30) (fun _ => False)) (fun ⟨_, _, h⟩ => h)).convert rc
  have hse := Str_toList [97]
  clear hr3 hra3 hx3 ht3 haf3 hstep hev
  go_wp2_with fail
  refine (len_any w.heap.size a3 cap3 _ (-1) false _ H3.out.x).mono ?_
  rintro e w4 ⟨rfl, rfl⟩
  go_wp2
  go_ret
  exact ⟨rfl, H3.out.bel⟩

end Go.Proofs.Ytobafefpkkahjaa
