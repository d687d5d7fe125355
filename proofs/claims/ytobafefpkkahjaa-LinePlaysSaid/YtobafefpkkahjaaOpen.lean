/- What the laws' walks share: a row of bytes that came in as bytes; the plain law of one line; literals and makes. -/
import Derived.Test.YtobafefpkkahjaaBase
import Derived.Laws.MakeOwn
import Derived.Lib.IndexLaws
namespace Go.Proofs.Ytobafefpkkahjaa
open Go.RowKit

theorem N8_bytesOf : ∀ (l : List Int), (∀ n ∈ l, 0 ≤ n ∧ n < 256) → N8 (Lib.bytesOf l) = l
  | [], _ => rfl
  | n :: l, h => by
    have ih := N8_bytesOf l (fun m hm => h m (List.mem_cons_of_mem _ hm))
    have hn := h n (List.mem_cons_self ..)
    have : ((UInt8.ofNat n.toNat).toNat : Int) = n := by
      rw [UInt8.toNat_ofNat']
      omega
    unfold N8 Lib.bytesOf at *
    simp only [List.map_cons]
    rw [ih, this]

theorem u8_wf {n : Int} (h : (Lit.int .u8 n).wf = true) : 0 ≤ n ∧ n < 256 := by
  have h2 : IntKind.u8.min ≤ n ∧ n ≤ IntKind.u8.max := by simpa [Lit.wf] using h
  have h3 : IntKind.u8.min = 0 := by decide
  have h4 : IntKind.u8.max = 255 := by decide
  omega

theorem rd_of_row {w : World} {x : Addr} {len : Nat} {zs : List Int} (hl : len ≤ zs.length) (hc : ∀ i, i < zs.length → w.cell? (x.add i) = some (.int .u8 (zs.getD i 0))) (hwf : ∀ n ∈ zs, (Lit.int .u8 n).wf = true) :
    ∃ bs : List UInt8, bs.length = len ∧ Rd w (some x) bs := by
  have e := N8_bytesOf (zs.take len) (fun n hn => u8_wf (hwf n (List.mem_of_mem_take hn)))
  have hlen : (Lib.bytesOf (zs.take len)).length = len := by simp [Lib.bytesOf]; omega
  refine ⟨Lib.bytesOf (zs.take len), hlen, fun h => ?_⟩
  rw [hlen] at h
  have h0 := hc 0 (by omega)
  obtain ⟨g, off, spot⟩ := x
  have hs : spot = none := by
    cases spot with
    | none => rfl
    | some s =>
      exfalso
      simp only [Addr.add, if_true] at h0
      unfold World.cell? at h0
      split at h0
      · simp at h0
      · cases h0
  subst hs
  refine ⟨g, off, rfl, ?_, fun j hj => ?_⟩
  · rw [addr_add] at h0
    unfold World.cell? at h0
    apply Nat.lt_of_not_le
    intro hge
    rw [Array.getElem?_eq_none hge] at h0
    cases h0
  · rw [hlen] at hj
    rw [e]
    have := hc j (by omega)
    rw [addr_add] at this
    rw [this, List.getD_eq_getElem?_getD, List.getD_eq_getElem?_getD, List.getElem?_take_of_lt hj]

/-! ### The plain law of one line -/
theorem index_append (bs rest : List UInt8) (h : ∀ b ∈ bs, b ≠ 10) : Lib.indexByte (bs ++ 10 :: rest) 10 = bs.length := by
  induction bs with
  | nil => simp [Lib.indexByte]
  | cons b l ih =>
    have hb := h b (List.mem_cons_self ..)
    have := ih (fun c hc => h c (List.mem_cons_of_mem _ hc))
    simp only [List.cons_append, Lib.indexByte, this]
    have h1 : (b == 10) = false := by simpa using hb
    have h2 : ((l.length : Int) == -1) = false := by simp
    simp [h1, h2]

theorem index_free (bs : List UInt8) (h : ∀ b ∈ bs, b ≠ 10) : Lib.indexByte bs 10 = -1 := by
  induction bs with
  | nil => rfl
  | cons b l ih =>
    have hb := h b (List.mem_cons_self ..)
    have := ih (fun c hc => h c (List.mem_cons_of_mem _ hc))
    have h1 : (b == 10) = false := by simpa using hb
    simp [Lib.indexByte, this, h1]

theorem trim13_free (bs : List UInt8) (h : ∀ b ∈ bs, b ≠ 13) : trim13 bs = bs := by
  unfold trim13
  split
  · rename_i hs
    exfalso
    unfold Lib.hasSuffix at hs
    have : [13] <:+ bs := by simpa using hs
    obtain ⟨t, rfl⟩ := this
    exact h 13 (by simp) rfl
  · rfl

/-- A line's end ahead: what Next tells. -/
theorem step_line (line rest : List UInt8) (dr : Bool) (h : ∀ b ∈ line, b ≠ 10) :
    step (line ++ 10 :: rest) (-1) dr = ⟨if dr || decide (300 < (trim13 line).length) then 2 else 1, if dr || decide (300 < (trim13 line).length) then [] else trim13 line, true, rest, -1, false⟩ := by
  unfold step
  have hi := index_append line rest h
  have hne : ¬ ((line.length : Int) = -1) := by omega
  have ht : (line ++ 10 :: rest).take line.length = line := List.take_left
  have hd : (line ++ 10 :: rest).drop (line.length + 1) = rest := by
    rw [show line.length + 1 = (line ++ [10]).length by simp, show line ++ 10 :: rest = (line ++ [10]) ++ rest by simp, List.drop_left]
  rw [if_neg (by simp), hi, if_neg hne]
  simp only [Int.toNat_natCast, ht, hd]

theorem step_free (bs : List UInt8) (dr : Bool) (h : ∀ b ∈ bs, b ≠ 10) : step bs (-1) dr = ⟨0, [], false, if 301 < bs.length then [] else bs, -1, if 301 < bs.length then true else dr⟩ := by
  unfold step
  rw [if_neg (by simp), index_free bs h, if_pos rfl]

/-! ### A mask -/
theorem mask_le (c : Int) (m : Nat) (hm : m < 9223372036854775808) : ∃ k : Nat, k ≤ m ∧ bits .and .i64 c (m : Int) = (k : Int) := by
  have h2 : (BitVec.ofInt 64 (m : Int)).toNat = m := by
    rw [BitVec.ofInt_natCast, BitVec.toNat_ofNat]; exact Nat.mod_eq_of_lt (by omega)
  refine ⟨(BitVec.ofInt 64 c &&& BitVec.ofInt 64 (m : Int)).toNat, by rw [BitVec.toNat_and, h2]; exact Nat.and_le_right, ?_⟩
  show IntKind.i64.wrap ((BitVec.ofInt 64 c &&& BitVec.ofInt 64 (m : Int)).toNat : Int) = _
  have : (BitVec.ofInt 64 c &&& BitVec.ofInt 64 (m : Int)).toNat ≤ m := by rw [BitVec.toNat_and, h2]; exact Nat.and_le_right
  rw [IntKind.wrap_i64]
  omega

/-! ### Literals, makes -/
theorem tl_lit (w : World) (ys : List UInt8) (g : Nat) (hg : g = w.heap.size) : Tl (w.alloc (.cells (C8 ys).toArray 5)) (some ⟨g, 0, none⟩) ys.length ys := by
  subst hg
  refine ⟨Nat.le_refl _, (fun e => by cases e), fun ad had => ?_⟩
  cases had
  refine ⟨_, 0, rfl, by simp, fun j hj => ?_, fun j hj => ⟨?_, ?_⟩⟩
  · rw [blk_cell (blk_new w _), Nat.zero_add, List.getElem?_toArray]
    exact C8_at ys j hj
  · rw [blk_cell (blk_new w _), Nat.zero_add, List.getElem?_toArray, C8_at ys j hj]
    rfl
  · exact blk_free (blk_new w _)

theorem feed_ok' (L : Nat) (a : Option Addr) (cap : Nat) (bs : List UInt8) (want : Int) (dr : Bool) (b : Option Addr) (n bcap : Nat) (ys : List UInt8) (w : World) (hn : ys.length = n) (hx : XAt w L a cap bs want dr) (hy : Rd w b ys) (hsz : bs.length + n ≤ 4096) :
    Calls Try.prog 15 #[.pointer (some ⟨L, 0, none⟩), .slice b n bcap] w fun e w' => ∃ a' cap', e = .returned (.int .i64 0) ∧ XAt w' L a' cap' (bs ++ ys) want dr ∧ Touch w w' (Foot L a) ∧ After w a a' := by
  subst hn
  exact feed_ok L a cap bs want dr b bcap ys w hx hy hsz

theorem mem_of_getD {bs : List UInt8} {c : UInt8} (h : ∀ j, j < bs.length → (N8 bs).getD j 0 ≠ (c.toNat : Int)) : ∀ b ∈ bs, b ≠ c := by
  intro b hb e
  obtain ⟨j, hj, hbj⟩ := List.getElem_of_mem hb
  refine h j hj ?_
  rw [N8_get, List.getD_eq_getElem?_getD, List.getElem?_eq_getElem hj, hbj, e]
  rfl

/-! ### A chain of appends on a buffer of the call's own -/
theorem app1 {w w' : World} {o : Obj} {a1 : Option Addr} (ht : Touch (w.alloc o) w' (InA (some ⟨w.heap.size, 0, none⟩))) (haf : After (w.alloc o) (some ⟨w.heap.size, 0, none⟩) a1) :
    Touch w w' (fun k => w.heap.size ≤ k) ∧ ∀ ad, a1 = some ad → w.heap.size ≤ ad.block := by
  refine ⟨(Touch.alloc w o _).trans (ht.weaken (M' := fun k => w.heap.size ≤ k) (fun i _ ⟨ad, e, hb⟩ => by cases e; exact Nat.le_of_eq hb)) (fun _ _ h => h), fun ad had => ?_⟩
  rcases haf ad had with ⟨bd, e, hb⟩ | h
  · cases e; exact Nat.le_of_eq hb
  · simp at h; omega

theorem app2 {w w' w'' : World} {o : Obj} {a1 a2 : Option Addr} (h1 : Touch w w' (fun k => w.heap.size ≤ k)) (h2 : ∀ ad, a1 = some ad → w.heap.size ≤ ad.block) (ht : Touch (w'.alloc o) w'' (InA a1)) (haf : After (w'.alloc o) a1 a2) :
    Touch w w'' (fun k => w.heap.size ≤ k) ∧ ∀ ad, a2 = some ad → w.heap.size ≤ ad.block := by
  refine ⟨(h1.trans (Touch.alloc w' o (fun k => w.heap.size ≤ k)) (fun _ _ h => h)).trans (ht.weaken (M' := fun k => w.heap.size ≤ k) (fun i _ ⟨ad, e, hb⟩ => by rw [← hb]; exact h2 ad e)) (fun _ _ h => h), fun ad had => ?_⟩
  rcases haf ad had with ⟨bd, e, hb⟩ | h
  · rw [← hb]; exact h2 bd e
  · have := h1.size; simp at h; omega

theorem app3 {w w' w'' : World} {a1 a2 : Option Addr} (h1 : Touch w w' (fun k => w.heap.size ≤ k)) (h2 : ∀ ad, a1 = some ad → w.heap.size ≤ ad.block) (ht : Touch w' w'' (InA a1)) (haf : After w' a1 a2) :
    Touch w w'' (fun k => w.heap.size ≤ k) ∧ ∀ ad, a2 = some ad → w.heap.size ≤ ad.block := by
  refine ⟨h1.trans (ht.weaken (M' := fun k => w.heap.size ≤ k) (fun i _ ⟨ad, e, hb⟩ => by rw [← hb]; exact h2 ad e)) (fun _ _ h => h), fun ad had => ?_⟩
  rcases haf ad had with ⟨bd, e, hb⟩ | h
  · rw [← hb]; exact h2 bd e
  · have := h1.size; omega

theorem wpList_append_tn {w : World} {ops : Array Oper} {rest : List Oper} {o : Oper} {a0 : Act} {Q : Exit → Act → World → Prop} (hgd : o.guard = none) (s x : Operand)
    (ho : o.op = .call { callee := .builtin .append, args := #[s, x], argTypes := #[22, 22] })
    (a : Option Addr) (n cap : Nat) (bs ys : List UInt8) (hn : bs.length = n) (vx : Value) (hsv : a0.eval s = .slice a n cap) (hxv : a0.eval x = vx) (h : Tl w a cap bs) (hs : Src Try.prog 1 22 vx ys.length (C8 ys) w) (hb : bs.length + ys.length ≤ 1000000)
    (hk : ∀ a' cap' w', Tl w' a' cap' (bs ++ ys) → Touch w w' (InA a) → After w a a' → wpList Try.prog ops Q rest (a0.put o.dst (.slice a' (n + ys.length) cap')) w') : wpList Try.prog ops Q (o :: rest) a0 w := by
  subst hn
  exact wpList_append_tl hgd s x ho a cap bs ys vx hsv hxv h hs hb hk

theorem Own.after {w0 w w' : World} {L : Nat} {a : Option Addr} {cap : Nat} {bs : List UInt8} {want : Int} {dr : Bool} (h : Own w0 w L a cap bs want dr) (ht : Touch w w' (fun k => w.heap.size ≤ k)) : Own w0 w' L a cap bs want dr :=
  h.touch (ht.below (Nat.le_refl _) (fun i hi h => by omega))

/-- What came in is as it was. -/
theorem Own.rd {w0 w : World} {L : Nat} {a : Option Addr} {cap : Nat} {bs : List UInt8} {want : Int} {dr : Bool} (h : Own w0 w L a cap bs want dr) {b : Option Addr} {ys : List UInt8} (hr : Rd w0 b ys) : Rd w b ys :=
  hr.touch (Touch.of_below (M := fun _ => False) h.bel (fun i h1 h2 => by omega)) (fun ⟨_, _, h⟩ => h)

theorem Rd.alloc {w : World} {b : Option Addr} {ys : List UInt8} (hr : Rd w b ys) (o : Obj) : Rd (w.alloc o) b ys := hr.touch (Touch.alloc w o (fun _ => False)) (fun ⟨_, _, h⟩ => h)
theorem Tl.alloc {w : World} {b : Option Addr} {cap : Nat} {ys : List UInt8} (hr : Tl w b cap ys) (o : Obj) : Tl (w.alloc o) b cap ys := hr.touch (Touch.alloc w o (fun _ => False)) (fun ⟨_, _, h⟩ => h)

/-- An event's bytes lie outside of the Lines. -/
theorem data_free {w0 w : World} {L : Nat} {a a' r : Option Addr} {cap : Nat} {bs : List UInt8} {want : Int} {dr : Bool} (h : Own w0 w L a cap bs want dr) (hr : After w none r) (ha : Within a a') :
    ∀ M : Nat → Prop, (∀ k, M k → Foot L a' k) → ¬ At r M := fun M hM ⟨ad, had, hm⟩ => by
  have h1 := h.x.inA_lt ad.block (by
    rcases hM _ hm with h | ⟨bd, hb, e⟩
    · exact .inl h
    · rw [← e]; exact .inr (ha bd hb))
  rcases hr ad had with ⟨_, h, _⟩ | h
  · cases h
  · omega

end Go.Proofs.Ytobafefpkkahjaa
