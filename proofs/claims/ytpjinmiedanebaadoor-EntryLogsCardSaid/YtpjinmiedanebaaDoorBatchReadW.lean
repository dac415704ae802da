/-
  How an op is read. (Printed by genbatchread.py.) No condition but a size.
-/
import Derived.Test.YtpjinmiedanebaaDoorBatchFew
import Derived.Test.YtpjinmiedanebaaDoorAtomRTake
namespace Go.Proofs.YtpjinmiedanebaaDoor
open Go.RowKit
set_option maxRecDepth 20000
/-- an op as it stands in the text, right or not; and what stands behind -/
def rawOpL (km : Nat) (p : List UInt8) : OpL × List UInt8 :=
  let a := takeL p
  let b := takeTextL a.2.1 km
  let c := takeTextL b.2.1 512
  (⟨UInt8.ofNat a.1, b.1, c.1⟩, c.2.1)
def okOpL (kk km : Nat) (p : List UInt8) : Bool :=
  let a := takeL p
  let b := takeTextL a.2.1 km
  let c := takeTextL b.2.1 512
  decide (a.2.2 = 0) && decide (b.2.2 = 0) && decide (c.2.2 = 0) && decide (a.1 ≤ kk)
theorem readOp_raw (kk km : Nat) (p : List UInt8) : readOpL kk km p = if okOpL kk km p = true then some (rawOpL km p) else none := by
  unfold readOpL okOpL rawOpL
  simp only [Bool.and_eq_true, decide_eq_true_eq, and_assoc]
/-- an op, bytes and whether it is right, that a call gives back -/
def GotRaw (w : World) (x : OpL × List UInt8) (b : Bool) (e : Ending) (w' : World) : Prop :=
  ∃ A3 n3 c3 A4 n4 c4 B m d, e = .returned (.tuple #[.agg #[.int .u8 (x.1.kind.toNat : Int), .slice A3 n3 c3, .slice A4 n4 c4], .slice B m d, .bool b]) ∧ Sl w' 1 A3 n3 c3 (bc x.1.key) ∧ Sl w' 1 A4 n4 c4 (bc x.1.value) ∧ Sl w' 1 B m d (bc x.2) ∧ NewAt w A3 n3 ∧ NewAt w A4 n4 ∧ NewAt w B m ∧ Below w.heap.size w w'
theorem bne_int (a : Nat) : ((a : Int) == 0) = decide (a = 0) := by
  rw [Bool.eq_iff_iff, beq_iff_eq, decide_eq_true_eq]
  omega
theorem exists_raw {w w' : World} {ka : Nat} {tb tc rc : List UInt8} {A3 : Option Addr} {n3 c3 : Nat} {A5 : Option Addr} {n5 c5 : Nat} {A6 : Option Addr} {n6 c6 : Nat} (b : Bool)
    (s3 : Sl w' 1 A3 n3 c3 (bc tb)) (s5 : Sl w' 1 A5 n5 c5 (bc tc)) (s6 : Sl w' 1 A6 n6 c6 (bc rc)) (h3 : NewAt w A3 n3) (h5 : NewAt w A5 n5) (h6 : NewAt w A6 n6) (q : Below w.heap.size w w') :
    ∃ A3' n3' c3' A4 n4 c4 B m d, Ending.returned (.tuple #[.agg #[.int .u8 ((ka : Int) % 256), .slice A3 n3 c3, .slice A5 n5 c5], .slice A6 n6 c6, .bool b]) = .returned (.tuple #[.agg #[.int .u8 ((ka : Int) % 256), .slice A3' n3' c3', .slice A4 n4 c4], .slice B m d, .bool b]) ∧ Sl w' 1 A3' n3' c3' (bc tb) ∧ Sl w' 1 A4 n4 c4 (bc tc) ∧ Sl w' 1 B m d (bc rc) ∧ NewAt w A3' n3' ∧ NewAt w A4 n4 ∧ NewAt w B m ∧ Below w.heap.size w w' :=
  ⟨A3, n3, c3, A5, n5, c5, A6, n6, c6, rfl, s3, s5, s6, h3, h5, h6, q⟩
theorem takeText_len (p : List UInt8) (m : Int) : (takeTextL p m).2.1.length ≤ p.length := by
  have h := takeL_len p
  unfold takeTextL
  repeat' split
  · simp
  · simp
  · simp
  · simp only [List.length_drop]
    omega
set_option maxHeartbeats 8000000 in
theorem read_any (w : World) (A : Option Addr) (n c : Nat) (p : List UInt8) (h : Sl w 1 A n c (bc p)) (hn : n ≤ 1000000) :
    Calls Tryd.prog 67 #[.slice A n c] w (GotRaw w (rawOpL 64 p) (okOpL 3 64 p)) := by
  have ha := fun w' (hb : Below w.heap.size w w') => take_any w' A n c p (h.below (by omega) hb) (by omega)
  have hlen1 := takeL_len p
  have hlt := takeL_lt p
  have hl := h.lenb
  obtain ⟨a, hA⟩ : ∃ a, takeL p = a := ⟨_, rfl⟩
  obtain ⟨b, hB⟩ : ∃ b, takeTextL a.2.1 64 = b := ⟨_, rfl⟩
  obtain ⟨e3, hC⟩ : ∃ e3, takeTextL b.2.1 512 = e3 := ⟨_, rfl⟩
  have hb2 := fun w' A n c (h : Sl w' 1 A n c (bc a.2.1)) (hn : n ≤ 70368744177664) => taketext_new w' A n c a.2.1 h hn 64 (by omega)
  have hc2 := fun w' A n c (h : Sl w' 1 A n c (bc b.2.1)) (hn : n ≤ 70368744177664) => taketext_new w' A n c b.2.1 h hn 512 (by omega)
  have hraw : rawOpL 64 p = (⟨UInt8.ofNat a.1, b.1, e3.1⟩, e3.2.1) := by
    unfold rawOpL
    simp only [hA]
    rw [show (((64 : Nat) : Int)) = 64 from rfl, hB, hC]
  have hok : okOpL 3 64 p = (decide (a.2.2 = 0) && decide (b.2.2 = 0) && decide (e3.2.2 = 0) && decide (a.1 ≤ 3)) := by
    unfold okOpL
    simp only [hA]
    rw [show (((64 : Nat) : Int)) = 64 from rfl, hB, hC]
  have hlb : b.2.1.length ≤ 1000000 := by
    rw [← hB]
    have h1 := takeText_len a.2.1 64
    rw [hA] at hlen1
    omega
  rw [hA] at ha hlen1 hlt
  rw [hB] at hb2
  rw [hC] at hc2
  rw [hraw, hok]
  have hla : a.2.1.length ≤ 1000000 := by omega
  clear hraw hok hA hB hC hlen1
  obtain ⟨ka, ra, ea⟩ := a
  obtain ⟨tb, rb, eb⟩ := b
  obtain ⟨tc, rc, ec⟩ := e3
  simp only at *
  unfold TookB at ha
  unfold TookN at hb2 hc2
  simp only at ha hb2 hc2
  have hk8 : ((UInt8.ofNat ka).toNat : Int) = (ka : Int) % 256 := by simp
  unfold GotRaw
  simp only
  rw [hk8]
  have Ha := Lib.hid ha
  have Hb := Lib.hid hb2
  have Hc := Lib.hid hc2
  have Hla := Lib.hid hla
  have Hlb := Lib.hid hlb
  clear ha hb2 hc2 hla hlb h hl hn hk8
  obtain ⟨x1, h1⟩ : ∃ x, decide (ea = 0) = x := ⟨_, rfl⟩
  obtain ⟨x2, h2⟩ : ∃ x, decide (eb = 0) = x := ⟨_, rfl⟩
  obtain ⟨x3, h3⟩ : ∃ x, decide (ec = 0) = x := ⟨_, rfl⟩
  obtain ⟨x4, h4⟩ : ∃ x, decide (ka ≤ 3) = x := ⟨_, rfl⟩
  have i1 : ((ea : Int) == 0) = x1 := by rw [bne_int, h1]
  have i2 : ((eb : Int) == 0) = x2 := by rw [bne_int, h2]
  have i3 : ((ec : Int) == 0) = x3 := by rw [bne_int, h3]
  have i4 : decide ((ka : Int) ≤ 3) = x4 := by rw [← h4, decide_eq_decide]; omega
  rw [h1, h2, h3, h4]
  clear h1 h2 h3 h4
  have al := (Below.refl w.heap.size w).alloc (Nat.le_refl _) (.cells #[.int .u8 0, .slice none 0 0, .slice none 0 0] 88)
  have kC := Bx.fresh w (.int .u8 0) (.slice none 0 0) (.slice none 0 0) 88
  go_enter Tryd.func67, Tryd.ntmps67
  go_wp2_with fail
  generalize (w.alloc (.cells #[.int .u8 0, .slice none 0 0, .slice none 0 0] 88)) = w1 at *
  refine (Ha.out _ al).mono ?_
  rintro e w2 ⟨A1, n1, c1, rfl, ho1, hb2⟩
  have hn1 := ho1.len'
  have s1 := ho1.sl
  have kC := kC.below hb2
  have q2 := al.trans (hb2.mono al.size)
  have hzz : w.heap.size < w2.heap.size := kC.lt
  clear hb2 ho1 al
  go_wp2_with fail
  refine (Hb.out _ A1 n1 c1 s1 (by have := Hla.out; omega)).mono ?_
  rintro e w3 ⟨A3, n3, c3, A4, n4, c4, rfl, s3, s4, hb3, hN3, hN4⟩
  have hn4 := s4.lenb
  have kC := kC.below hb3
  have hz2 := q2.size
  have q3 := q2.trans (hb3.mono q2.size)
  clear hb3 s1 hn1
  go_wp2_with fail
  refine (Hc.out _ A4 n4 c4 s4 (by have := Hlb.out; omega)).mono ?_
  rintro e w4 ⟨A5, n5, c5, A6, n6, c6, rfl, s5, s6, hb4, hN5, hN6⟩
  have s3 := s3.below (by omega) hb4
  have hz3 : w.heap.size < w3.heap.size := kC.lt
  have kC := kC.below hb4
  have q4 := q3.trans (hb4.mono q3.size)
  clear hb4 s4 hn4
  have hz1 : w.heap.size < w4.heap.size := kC.lt
  have hS3 : ∀ b, 0 < n3 → A3.map (·.block) = some b → w.heap.size < b := fun b hn e => by have := hN3 b hn e; have := hzz; omega
  have hS5 : ∀ b, 0 < n5 → A5.map (·.block) = some b → w.heap.size < b := fun b hn e => by have := hN5 b hn e; have := hzz; have := hz3; omega
  have hS6 : ∀ b, 0 < n6 → A6.map (·.block) = some b → w.heap.size < b := fun b hn e => by have := hN6 b hn e; have := hzz; have := hz3; omega
  obtain ⟨y0, y1, y2, y3⟩ := id kC
  obtain ⟨kD, hg⟩ := Bx.set (v0 := .int .u8 ((ka : Int) % 256)) (v1 := .slice A3 n3 c3) (v2 := .slice A5 n5 c5) kC rfl
  have s3 := s3.grown (by omega) hg (fun hn b e q => by have := hS3 b hn e; simp at q; omega)
  have s5 := s5.grown (by omega) hg (fun hn b e q => by have := hS5 b hn e; simp at q; omega)
  have s6 := s6.grown (by omega) hg (fun hn b e q => by have := hS6 b hn e; simp at q; omega)
  have q5 := q4.grown hg q4.size (fun b hb => by simp at hb; omega)
  obtain ⟨z0, z1, z2, _⟩ := kD
  have F := fun b => @exists_raw w _ ka tb tc rc A3 n3 c3 A5 n5 c5 A6 n6 c6 b s3 s5 s6 (fun b hn e => Nat.le_of_lt (hS3 b hn e)) (fun b hn e => Nat.le_of_lt (hS5 b hn e)) (fun b hn e => Nat.le_of_lt (hS6 b hn e)) q5
  have HF := Lib.hid F
  clear s3 s5 s6 q5 hS3 hS5 hS6 hN3 hN5 hN6 hg F hz2 hz3 q4 q3 q2
  cases x1
  · cases x2
    · cases x3
      · cases x4
        · go_wp2
          refine bodyPost_ret (v := .tuple #[.agg #[.int .u8 ((ka : Int) % 256), .slice A3 n3 c3, .slice A5 n5 c5], .slice A6 n6 c6, .bool false]) (by simp [results, Tryd.results67, go_sem, z0, z1, z2]) rfl ?_
          exact HF.out false
        · go_wp2
          refine bodyPost_ret (v := .tuple #[.agg #[.int .u8 ((ka : Int) % 256), .slice A3 n3 c3, .slice A5 n5 c5], .slice A6 n6 c6, .bool false]) (by simp [results, Tryd.results67, go_sem, z0, z1, z2]) rfl ?_
          exact HF.out false
      · cases x4
        · go_wp2
          refine bodyPost_ret (v := .tuple #[.agg #[.int .u8 ((ka : Int) % 256), .slice A3 n3 c3, .slice A5 n5 c5], .slice A6 n6 c6, .bool false]) (by simp [results, Tryd.results67, go_sem, z0, z1, z2]) rfl ?_
          exact HF.out false
        · go_wp2
          refine bodyPost_ret (v := .tuple #[.agg #[.int .u8 ((ka : Int) % 256), .slice A3 n3 c3, .slice A5 n5 c5], .slice A6 n6 c6, .bool false]) (by simp [results, Tryd.results67, go_sem, z0, z1, z2]) rfl ?_
          exact HF.out false
    · cases x3
      · cases x4
        · go_wp2
          refine bodyPost_ret (v := .tuple #[.agg #[.int .u8 ((ka : Int) % 256), .slice A3 n3 c3, .slice A5 n5 c5], .slice A6 n6 c6, .bool false]) (by simp [results, Tryd.results67, go_sem, z0, z1, z2]) rfl ?_
          exact HF.out false
        · go_wp2
          refine bodyPost_ret (v := .tuple #[.agg #[.int .u8 ((ka : Int) % 256), .slice A3 n3 c3, .slice A5 n5 c5], .slice A6 n6 c6, .bool false]) (by simp [results, Tryd.results67, go_sem, z0, z1, z2]) rfl ?_
          exact HF.out false
      · cases x4
        · go_wp2
          refine bodyPost_ret (v := .tuple #[.agg #[.int .u8 ((ka : Int) % 256), .slice A3 n3 c3, .slice A5 n5 c5], .slice A6 n6 c6, .bool false]) (by simp [results, Tryd.results67, go_sem, z0, z1, z2]) rfl ?_
          exact HF.out false
        · go_wp2
          refine bodyPost_ret (v := .tuple #[.agg #[.int .u8 ((ka : Int) % 256), .slice A3 n3 c3, .slice A5 n5 c5], .slice A6 n6 c6, .bool false]) (by simp [results, Tryd.results67, go_sem, z0, z1, z2]) rfl ?_
          exact HF.out false
  · cases x2
    · cases x3
      · cases x4
        · go_wp2
          refine bodyPost_ret (v := .tuple #[.agg #[.int .u8 ((ka : Int) % 256), .slice A3 n3 c3, .slice A5 n5 c5], .slice A6 n6 c6, .bool false]) (by simp [results, Tryd.results67, go_sem, z0, z1, z2]) rfl ?_
          exact HF.out false
        · go_wp2
          refine bodyPost_ret (v := .tuple #[.agg #[.int .u8 ((ka : Int) % 256), .slice A3 n3 c3, .slice A5 n5 c5], .slice A6 n6 c6, .bool false]) (by simp [results, Tryd.results67, go_sem, z0, z1, z2]) rfl ?_
          exact HF.out false
      · cases x4
        · go_wp2
          refine bodyPost_ret (v := .tuple #[.agg #[.int .u8 ((ka : Int) % 256), .slice A3 n3 c3, .slice A5 n5 c5], .slice A6 n6 c6, .bool false]) (by simp [results, Tryd.results67, go_sem, z0, z1, z2]) rfl ?_
          exact HF.out false
        · go_wp2
          refine bodyPost_ret (v := .tuple #[.agg #[.int .u8 ((ka : Int) % 256), .slice A3 n3 c3, .slice A5 n5 c5], .slice A6 n6 c6, .bool false]) (by simp [results, Tryd.results67, go_sem, z0, z1, z2]) rfl ?_
          exact HF.out false
    · cases x3
      · cases x4
        · go_wp2
          refine bodyPost_ret (v := .tuple #[.agg #[.int .u8 ((ka : Int) % 256), .slice A3 n3 c3, .slice A5 n5 c5], .slice A6 n6 c6, .bool false]) (by simp [results, Tryd.results67, go_sem, z0, z1, z2]) rfl ?_
          exact HF.out false
        · go_wp2
          refine bodyPost_ret (v := .tuple #[.agg #[.int .u8 ((ka : Int) % 256), .slice A3 n3 c3, .slice A5 n5 c5], .slice A6 n6 c6, .bool false]) (by simp [results, Tryd.results67, go_sem, z0, z1, z2]) rfl ?_
          exact HF.out false
      · cases x4
        · go_wp2
          refine bodyPost_ret (v := .tuple #[.agg #[.int .u8 ((ka : Int) % 256), .slice A3 n3 c3, .slice A5 n5 c5], .slice A6 n6 c6, .bool false]) (by simp [results, Tryd.results67, go_sem, z0, z1, z2]) rfl ?_
          exact HF.out false
        · go_wp2
          refine bodyPost_ret (v := .tuple #[.agg #[.int .u8 ((ka : Int) % 256), .slice A3 n3 c3, .slice A5 n5 c5], .slice A6 n6 c6, .bool true]) (by simp [results, Tryd.results67, go_sem, z0, z1, z2]) rfl ?_
          exact HF.out true
end Go.Proofs.YtpjinmiedanebaaDoor
