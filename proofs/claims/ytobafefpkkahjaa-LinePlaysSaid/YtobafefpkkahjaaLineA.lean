/- The contracts of package line: New, Feed, Want, Len, taken. -/
import Derived.Test.YtobafefpkkahjaaMem
namespace Go.Proofs.Ytobafefpkkahjaa
open Go.RowKit

/-- A Lines at block L: the bytes bs wait in a buffer at a; want; dropped. -/
structure XAt (w : World) (L : Nat) (a : Option Addr) (cap : Nat) (bs : List UInt8) (want : Int) (dr : Bool) : Prop where
  cell : w.heap[L]? = some (.cells #[.slice a bs.length cap, .int .i64 want, .bool dr] 54 (0, 0))
  tl : Tl w a cap bs
  ne : ∀ ad, a = some ad → ad.block ≠ L

/-- What its operations may write. -/
def Foot (L : Nat) (a : Option Addr) (k : Nat) : Prop := k = L ∨ InA a k

theorem XAt.touch {w w' : World} {L : Nat} {a : Option Addr} {cap : Nat} {bs : List UInt8} {want : Int} {dr : Bool} {M : Nat → Prop} (h : XAt w L a cap bs want dr) (ht : Touch w w' M) (hn : ∀ k, Foot L a k → ¬ M k) : XAt w' L a cap bs want dr :=
  ⟨blk_touch h.cell ht (hn L (.inl rfl)), h.tl.touch ht (fun ⟨ad, had, hm⟩ => hn ad.block (.inr ⟨ad, had, rfl⟩) hm), h.ne⟩

theorem new_any (w : World) : Calls Try.prog 10 #[] w fun e w' => e = .returned (.pointer (some ⟨w.heap.size, 0, none⟩)) ∧ w.alloc (.cells #[.slice none 0 0, .int .i64 (-1), .bool false] 54) = w' := by
  go_enter Try.func10, Try.ntmps10
  go_wp2
  go_ret
  exact ⟨rfl, rfl⟩

theorem XAt.new (w : World) : XAt (w.alloc (.cells #[.slice none 0 0, .int .i64 (-1), .bool false] 54)) w.heap.size none 0 [] (-1) false :=
  ⟨blk_new w _, Tl.nil _, fun _ h => by cases h⟩

set_option maxHeartbeats 400000 in
theorem feed_ok (L : Nat) (a : Option Addr) (cap : Nat) (bs : List UInt8) (want : Int) (dr : Bool) (b : Option Addr) (bcap : Nat) (ys : List UInt8) (w : World) (hx : XAt w L a cap bs want dr) (hy : Rd w b ys) (hsz : bs.length + ys.length ≤ 4096) :
    Calls Try.prog 15 #[.pointer (some ⟨L, 0, none⟩), .slice b ys.length bcap] w fun e w' => ∃ a' cap', e = .returned (.int .i64 0) ∧ XAt w' L a' cap' (bs ++ ys) want dr ∧ Touch w w' (Foot L a) ∧ After w a a' := by
  have c0 : w.cell? ⟨L, 0, none⟩ = some (.slice a bs.length cap) := blk_cell hx.cell
  have HX := Lib.hid hx
  have HY := Lib.hid hy
  clear hx hy
  go_enter Try.func15, Try.ntmps15
  go_wp2_with (at_builtin; refine wpList_append_tl rfl _ _ rfl a cap bs ys _ rfl rfl HX.out.tl (src_of HY.out bcap) (by omega) ?_)
  intro a' cap' w1 htl ht haf
  have hL : ¬ InA a L := fun ⟨ad, had, hb⟩ => HX.out.ne ad had hb
  have hcell := blk_touch HX.out.cell ht hL
  have c1 : w1.cell? ⟨L, 0, none⟩ = some (.slice a bs.length cap) := blk_cell hcell
  have f1 : w1.frozen? ⟨L, 0, none⟩ = false := blk_free hcell
  have HT := Lib.hid ht
  have HTL := Lib.hid htl
  have HAF := Lib.hid haf
  have HC := Lib.hid hcell
  have HL := Lib.hid hL
  clear ht htl haf hcell hL
  go_wp2
  go_ret
  have ha' : ∀ ad, a' = some ad → ad.block ≠ L := by
    intro ad had
    rcases HAF.out ad had with ⟨bd, hb, e⟩ | h
    · rw [← e]; exact HX.out.ne bd hb
    · have := blk_lt HX.out.cell
      omega
  refine ⟨a', cap', rfl, ⟨?_, ?_, ha'⟩, ?_, HAF.out⟩
  · have := blk_set (o := 0) HC.out (.slice a' (bs.length + ys.length) cap')
    simpa using this
  · exact HTL.out.touch (Touch.setCell w1 ⟨L, 0, none⟩ _ (M := fun k => k = L) rfl) (fun ⟨ad, had, hm⟩ => ha' ad had hm)
  · exact (HT.out.weaken (fun i _ h => .inr h)).trans (Touch.setCell w1 ⟨L, 0, none⟩ _ (M := Foot L a) (.inl rfl)) (fun i _ h => h)

theorem feed_no (L : Nat) (a : Option Addr) (cap : Nat) (bs : List UInt8) (want : Int) (dr : Bool) (b : Option Addr) (blen bcap : Nat) (w : World) (hx : XAt w L a cap bs want dr) (hb : bs.length ≤ 1000000) (hbl : blen ≤ 140737488355328) (hsz : 4096 < bs.length + blen) :
    Calls Try.prog 15 #[.pointer (some ⟨L, 0, none⟩), .slice b blen bcap] w fun e w' => e = .returned (.int .i64 5) ∧ w = w' := by
  have c0 : w.cell? ⟨L, 0, none⟩ = some (.slice a bs.length cap) := blk_cell hx.cell
  clear hx
  go_enter Try.func15, Try.ntmps15
  go_wp2
  go_ret
  exact ⟨rfl, rfl⟩

theorem feed_nil (v : Value) (w : World) : Calls Try.prog 15 #[.pointer none, v] w fun e w' => e = .returned (.int .i64 1) ∧ w = w' := by
  go_enter Try.func15, Try.ntmps15
  go_wp2
  go_ret
  exact ⟨rfl, rfl⟩

theorem want_ok (L : Nat) (a : Option Addr) (cap : Nat) (bs : List UInt8) (want : Int) (dr : Bool) (n : Int) (w : World) (hx : XAt w L a cap bs want dr) (h0 : 0 ≤ n) (h1 : n ≤ 1200) :
    Calls Try.prog 19 #[.pointer (some ⟨L, 0, none⟩), .int .i64 n] w fun e w' => e = .returned (.int .i64 0) ∧ XAt w' L a cap bs n dr ∧ Touch w w' (Foot L a) := by
  have c0 : w.cell? ⟨L, 1, none⟩ = some (.int .i64 want) := blk_cell hx.cell
  have f0 : w.frozen? ⟨L, 1, none⟩ = false := blk_free hx.cell
  have HX := Lib.hid hx
  clear hx
  go_enter Try.func19, Try.ntmps19
  go_wp2
  go_ret
  refine ⟨rfl, ⟨?_, ?_, HX.out.ne⟩, ?_⟩
  · have := blk_set (o := 1) HX.out.cell (.int .i64 n)
    simpa using this
  · exact HX.out.tl.touch (Touch.setCell w ⟨L, 1, none⟩ _ (M := fun k => k = L) rfl) (fun ⟨ad, had, hm⟩ => HX.out.ne ad had hm)
  · exact Touch.setCell w ⟨L, 1, none⟩ _ (M := Foot L a) (.inl rfl)

theorem want_no (p : Option Addr) (n : Int) (w : World) (h : p = none ∨ n < 0 ∨ 1200 < n) :
    Calls Try.prog 19 #[.pointer p, .int .i64 n] w fun e w' => e = .returned (.int .i64 1) ∧ w = w' := by
  cases p with
  | none =>
    clear h
    go_enter Try.func19, Try.ntmps19
    go_wp2
    all_goals (go_ret; exact ⟨rfl, rfl⟩)
  | some ad =>
    by_cases h0 : n < 0
    · clear h
      go_enter Try.func19, Try.ntmps19
      go_wp2
      go_ret
      exact ⟨rfl, rfl⟩
    · have h1 : 1200 < n := by rcases h with h | h | h <;> first | (cases h) | omega
      clear h
      go_enter Try.func19, Try.ntmps19
      go_wp2
      go_ret
      exact ⟨rfl, rfl⟩

theorem len_any (L : Nat) (a : Option Addr) (cap : Nat) (bs : List UInt8) (want : Int) (dr : Bool) (w : World) (hx : XAt w L a cap bs want dr) :
    Calls Try.prog 21 #[.pointer (some ⟨L, 0, none⟩)] w fun e w' => e = .returned (.int .i64 bs.length) ∧ w = w' := by
  have c0 : w.cell? ⟨L, 0, none⟩ = some (.slice a bs.length cap) := blk_cell hx.cell
  clear hx
  go_enter Try.func21, Try.ntmps21
  go_wp2
  go_ret
  exact ⟨rfl, rfl⟩

theorem len_nil (w : World) : Calls Try.prog 21 #[.pointer none] w fun e w' => e = .returned (.int .i64 0) ∧ w = w' := by
  go_enter Try.func21, Try.ntmps21
  go_wp2
  go_ret
  exact ⟨rfl, rfl⟩

theorem XAt.inA_lt {w : World} {L : Nat} {a : Option Addr} {cap : Nat} {bs : List UInt8} {want : Int} {dr : Bool} (h : XAt w L a cap bs want dr) : ∀ k, Foot L a k → k < w.heap.size := by
  rintro k (rfl | ⟨ad, had, rfl⟩)
  · exact blk_lt h.cell
  · obtain ⟨g, off, rfl, hg, _⟩ := h.tl.2.2 ad had
    exact hg

/-- The first field written. -/
theorem XAt.store0 {w : World} {L : Nat} {a : Option Addr} {cap : Nat} {bs : List UInt8} {want : Int} {dr : Bool} (h : XAt w L a cap bs want dr) {a' : Option Addr} {cap' : Nat} {bs' : List UInt8} (ht : Tl w a' cap' bs') (hn : ∀ ad, a' = some ad → ad.block ≠ L) :
    XAt (w.setCell ⟨L, 0, none⟩ (.slice a' bs'.length cap')) L a' cap' bs' want dr :=
  ⟨by simpa using blk_set (o := 0) h.cell (.slice a' bs'.length cap'), ht.touch (Touch.setCell w ⟨L, 0, none⟩ _ (M := fun k => k = L) rfl) (fun ⟨ad, had, hm⟩ => hn ad had hm), hn⟩
theorem XAt.store1 {w : World} {L : Nat} {a : Option Addr} {cap : Nat} {bs : List UInt8} {want : Int} {dr : Bool} (h : XAt w L a cap bs want dr) (m : Int) : XAt (w.setCell ⟨L, 1, none⟩ (.int .i64 m)) L a cap bs m dr :=
  ⟨by simpa using blk_set (o := 1) h.cell (.int .i64 m), h.tl.touch (Touch.setCell w ⟨L, 1, none⟩ _ (M := fun k => k = L) rfl) (fun ⟨ad, had, hm⟩ => h.ne ad had hm), h.ne⟩
theorem XAt.store2 {w : World} {L : Nat} {a : Option Addr} {cap : Nat} {bs : List UInt8} {want : Int} {dr : Bool} (h : XAt w L a cap bs want dr) (d : Bool) : XAt (w.setCell ⟨L, 2, none⟩ (.bool d)) L a cap bs want d :=
  ⟨by simpa using blk_set (o := 2) h.cell (.bool d), h.tl.touch (Touch.setCell w ⟨L, 2, none⟩ _ (M := fun k => k = L) rfl) (fun ⟨ad, had, hm⟩ => h.ne ad had hm), h.ne⟩
theorem XAt.alloc {w : World} {L : Nat} {a : Option Addr} {cap : Nat} {bs : List UInt8} {want : Int} {dr : Bool} (h : XAt w L a cap bs want dr) (o : Obj) : XAt (w.alloc o) L a cap bs want dr :=
  h.touch (Touch.alloc w o (fun _ => False)) (fun _ _ h => h)

/-- What 'taken' takes, and what is left. -/
theorem take_slice {w : World} {L : Nat} {a : Option Addr} {cap : Nat} {bs : List UInt8} {want : Int} {dr : Bool} (hx : XAt w L a cap bs want dr) (n : Nat) (hn : n ≤ bs.length) :
    ∃ a', Tl w a' (cap - n) (bs.drop n) ∧ (∀ ad', a' = some ad' → InA a ad'.block) ∧ (n = cap → a' = a) ∧ (∀ ad, a = some ad → n < cap → a' = some ⟨ad.block, ad.off + n, none⟩) := by
  have h := hx.tl
  have hle := h.1
  by_cases hc : n = cap
  · subst hc
    have hd : bs.drop n = [] := List.drop_eq_nil_of_le (by omega)
    refine ⟨a, ?_, fun ad had => ⟨ad, had, rfl⟩, fun _ => rfl, fun ad _ h => absurd h (by omega)⟩
    rw [hd, Nat.sub_self]
    refine ⟨by simp, fun _ => rfl, fun ad had => ?_⟩
    obtain ⟨g, off, e, hg, _, _⟩ := h.2.2 ad had
    exact ⟨g, off, e, hg, fun j hj => absurd hj (by simp), fun j hj => absurd hj (by omega)⟩
  · cases a with
    | none => have := h.2.1 rfl; omega
    | some ad =>
      refine ⟨some ⟨ad.block, ad.off + n, none⟩, h.drop n hn (by omega), fun ad' h' => ?_, fun h' => absurd h' hc, fun ad' h' _ => by cases h'; rfl⟩
      cases h'
      exact ⟨ad, rfl, rfl⟩

/-- What bytes.Clone hands back. -/
theorem rd_of_owns {w : World} {B n : Nat} {v : Value} {ys : List UInt8} (h : w.ownsRow B 5 1 v n ((N8 ys).map (Value.int .u8))) : ∃ r rc, v = .slice r n rc ∧ n ≤ rc ∧ Rd w r ys ∧ ∀ ad, r = some ad → B ≤ ad.block := by
  have hlen : ys.length = n := by have := h.1; simpa using this
  rcases h.2 with ⟨rfl, rfl⟩ | ⟨g, cap, cur, rfl, hb, hg, hnc, _⟩
  · exact ⟨none, 0, rfl, Nat.le_refl _, (fun h => by omega), fun _ h => by cases h⟩
  · refine ⟨_, cap, rfl, hnc, fun _ => ⟨g, 0, rfl, blk_lt hg, fun j hj => ?_⟩, fun ad had => by cases had; exact hb⟩
    have := h.cells (g := g) rfl j _ (C8_at ys j hj)
    rw [addr_add] at this
    exact this

theorem taken_any (L : Nat) (a : Option Addr) (cap : Nat) (bs : List UInt8) (want : Int) (dr : Bool) (n : Nat) (w : World) (hx : XAt w L a cap bs want dr) (hn : n ≤ bs.length) (hb : bs.length ≤ 1000000) :
    Calls Try.prog 22 #[.pointer (some ⟨L, 0, none⟩), .int .i64 n] w fun e w' => ∃ r rc a', e = .returned (.slice r n rc) ∧ n ≤ rc ∧ Rd w' r (bs.take n) ∧ After w none r ∧ XAt w' L a' (cap - n) (bs.drop n) want dr ∧ Touch w w' (Foot L a) ∧ Within a a' := by
  have c0 : w.cell? ⟨L, 0, none⟩ = some (.slice a bs.length cap) := blk_cell hx.cell
  obtain ⟨a', t1, t2, t3, t4⟩ := take_slice hx n hn
  have hle := hx.tl.1
  have HX := Lib.hid hx
  have HT1 := Lib.hid t1
  have HT2 := Lib.hid t2
  clear hx t1 t2
  have ha' : ∀ ad, a' = some ad → ad.block ≠ L := fun ad had => by
    obtain ⟨bd, hb, e⟩ := HT2.out ad had
    rw [← e]; exact HX.out.ne bd hb
  have HA' := Lib.hid ha'
  clear ha'
  cases a with
  | none =>
    obtain rfl : cap = 0 := HX.out.tl.2.1 rfl
    have hb0 : bs = [] := List.eq_nil_of_length_eq_zero (by omega)
    subst hb0
    obtain rfl : n = 0 := by simpa using hn
    obtain rfl : a' = none := t3 rfl
    clear t3 t4
    have f0 : w.frozen? ⟨L, 0, none⟩ = false := blk_free HX.out.cell
    go_enter Try.func22, Try.ntmps22
    go_wp2_with fail
    refine (Try.bytes_Clone_nil _ _ _).mono ?_
    rintro e w1 ⟨rfl, hw⟩
    subst hw
    go_wp2_with fail
    go_ret
    refine ⟨none, 0, none, rfl, Nat.le_refl _, Rd.nil _ _, After.none _ _, ⟨?_, ?_, fun _ h => by cases h⟩, Touch.setCell _ ⟨L, 0, none⟩ _ (.inl rfl), Within.none _⟩
    · have := blk_set (o := 0) HX.out.cell (.slice none 0 0)
      simpa using this
    · exact Tl.nil _
  | some ad =>
    obtain ⟨g, off, rfl, hg, hc, hf⟩ := HX.out.tl.2.2 ad rfl
    have HC : Hid (∀ i, i < n → w.cell? ((⟨g, off, none⟩ : Addr).add i) = some (.int .u8 ((N8 (bs.take n)).getD i 0))) := fun i hi => by
      rw [addr_add, N8_getD_take _ _ _ hi]
      exact hc i (by omega)
    clear hc hf
    have hnc : n ≤ cap := by omega
    by_cases hcap : n = cap
    · obtain rfl : a' = some ⟨g, off, none⟩ := t3 hcap
      subst hcap
      clear t3 t4
      go_enter Try.func22, Try.ntmps22
      go_wp2_with fail
      refine (Try.bytes_Clone_at ⟨g, off, none⟩ n n (N8 (bs.take n)) _ (by simp; omega) (by omega) HC.out).mono ?_
      rintro e w1 ⟨v, rfl, hown, -, hbel⟩
      obtain ⟨r, rc, rfl, hrc, hr, hrb⟩ := rd_of_owns hown
      have ht : Touch w w1 (fun _ => False) := Touch.grows hbel _
      have hcell := blk_touch HX.out.cell ht (fun h => h)
      have c1 : w1.cell? ⟨L, 0, none⟩ = some (.slice (some ⟨g, off, none⟩) bs.length n) := blk_cell hcell
      have f1 : w1.frozen? ⟨L, 0, none⟩ = false := blk_free hcell
      have HCELL := Lib.hid hcell
      have HT := Lib.hid ht
      have HR := Lib.hid hr
      have HRB := Lib.hid hrb
      clear hown hbel hcell ht hr hrb
      go_wp2_with fail
      go_ret
      have htk : (bs.take n).length = n := by simp; omega
      have ht2 := Touch.setCell w1 ⟨L, 0, none⟩ (.slice (some ⟨g, off, none⟩) 0 0) (M := fun k => k = L) rfl
      have hLr : ∀ ad, r = some ad → ad.block ≠ L := fun ad had => by have := HRB.out ad had; have := blk_lt HX.out.cell; omega
      have hz : bs.length - n = 0 := by omega
      refine ⟨r, rc, some ⟨g, off, none⟩, rfl, hrc, HR.out.touch ht2 (fun ⟨ad, had, hm⟩ => hLr ad had hm), fun ad had => .inr (HRB.out ad had), ⟨?_, ?_, HA'.out⟩, (HT.out.weaken (fun _ _ h => h.elim)).trans (ht2.weaken (fun _ _ h => .inl h)) (fun _ _ h => h), Within.same _⟩
      · have := blk_set (o := 0) HCELL.out (.slice (some ⟨g, off, none⟩) 0 0)
        simpa [hz] using this
      · exact (HT1.out.touch HT.out (fun ⟨_, _, h⟩ => h)).touch ht2 (fun ⟨ad, had, hm⟩ => HA'.out ad had hm)
    · have hlt : n < cap := by omega
      obtain rfl : a' = some ⟨g, off + n, none⟩ := t4 _ rfl hlt
      clear t3 t4 hcap
      go_enter Try.func22, Try.ntmps22
      go_wp2_with fail
      refine (Try.bytes_Clone_at ⟨g, off, none⟩ n cap (N8 (bs.take n)) _ (by simp; omega) (by omega) HC.out).mono ?_
      rintro e w1 ⟨v, rfl, hown, -, hbel⟩
      obtain ⟨r, rc, rfl, hrc, hr, hrb⟩ := rd_of_owns hown
      have ht : Touch w w1 (fun _ => False) := Touch.grows hbel _
      have hcell := blk_touch HX.out.cell ht (fun h => h)
      have c1 : w1.cell? ⟨L, 0, none⟩ = some (.slice (some ⟨g, off, none⟩) bs.length cap) := blk_cell hcell
      have f1 : w1.frozen? ⟨L, 0, none⟩ = false := blk_free hcell
      have HCELL := Lib.hid hcell
      have HT := Lib.hid ht
      have HR := Lib.hid hr
      have HRB := Lib.hid hrb
      clear hown hbel hcell ht hr hrb
      go_wp2_with fail
      go_ret
      have htk : (bs.take n).length = n := by simp; omega
      have ht2 := Touch.setCell w1 ⟨L, 0, none⟩ (.slice (some ⟨g, off + n, none⟩) (bs.length - n) (cap - n)) (M := fun k => k = L) rfl
      have hLr : ∀ ad, r = some ad → ad.block ≠ L := fun ad had => by have := HRB.out ad had; have := blk_lt HX.out.cell; omega
      refine ⟨r, rc, some ⟨g, off + n, none⟩, rfl, hrc, HR.out.touch ht2 (fun ⟨ad, had, hm⟩ => hLr ad had hm), fun ad had => .inr (HRB.out ad had), ⟨?_, ?_, HA'.out⟩, (HT.out.weaken (fun _ _ h => h.elim)).trans (ht2.weaken (fun _ _ h => .inl h)) (fun _ _ h => h), fun ad had => HT2.out ad had⟩
      · have := blk_set (o := 0) HCELL.out (.slice (some ⟨g, off + n, none⟩) (bs.length - n) (cap - n))
        simpa using this
      · exact (HT1.out.touch HT.out (fun ⟨_, _, h⟩ => h)).touch ht2 (fun ⟨ad, had, hm⟩ => HA'.out ad had hm)

end Go.Proofs.Ytobafefpkkahjaa
