/-
  WALKS OF THE PROGRAM: undo.Check.
-/
import Derived.Test.YtnanlaefehaifaaGreatRK
namespace Go.Proofs.YtnanlaefehaifaaGreat
open Go.RowKit

/-- May an undo be? (P17.3) -/
def undoZ (x : UndoV) : Bool := (x.act == 0) && (x.key.toList == ByteArray.empty.toList) && (x.n == 0) && itemZ x.state x.ikey x.cell
def rightU (x : UndoV) : Bool := if x.act = 0 then undoZ x else if x.act = 1 then goodKey x.key && (decide (x.state = 1 ∨ x.state = 2) && (rightI x.state x.ikey x.cell && ((x.ikey.toList == x.key.toList) && (x.n == 0)))) else decide (x.act = 2 ∨ x.act = 3) && (goodKey x.key && (decide (0 ≤ x.n) && itemZ x.state x.ikey x.cell))
def undoE (x : UndoV) : Int := if rightU x = true then 0 else 1
set_option maxHeartbeats 6400000 in
set_option maxRecDepth 100000 in
theorem undoCheck_any (x : UndoV) (B : Nat) (w : World) (hk : x.key.size ≤ 1000000) (hik : x.ikey.size ≤ 1000000) (hB : B ≤ w.heap.size) (ha : UndoOk w B x) :
    Calls Tryz.prog 172 #[undoV x] w fun e w' => e = .returned (.int .i64 (undoE x)) ∧ Below w.heap.size w w' := by
  have hb1 := fun o => (Below.refl w.heap.size w).alloc (Nat.le_refl _) o
  have HS := hide (fun o => (show Calls Tryz.prog 174 #[undoV x, .agg #[.int .i64 0, .string ⟨#[]⟩, .int .i64 0, .string ⟨#[]⟩, .int .i64 0, .slice none 0 0, .int .i64 0, .int .i64 0, .int .i64 0, .int .i64 0]] (w.alloc o) (fun e w' => e = .returned (.bool (undoZ x)) ∧ Below (w.alloc o).heap.size (w.alloc o) w') from undoSame_any x undo0 B (w.alloc o) (by simp; omega) (UndoOk.below ha (hb1 o) hB) (bytes_none _ _)))
  have HI := hide (fun W (hb : Below w.heap.size w W) => (show Calls Tryz.prog 223 #[itemV x.state x.ikey x.cell x.cv, .agg #[.int .i64 0, .string ⟨#[]⟩, .int .i64 0, .slice none 0 0, .int .i64 0, .int .i64 0, .int .i64 0]] W (fun e w' => e = .returned (.bool (itemZ x.state x.ikey x.cell)) ∧ Below W.heap.size W w') from slotSame_any x.state 0 x.ikey .empty x.cell cell0 x.cv (.slice none 0 0) B W (Nat.le_trans hB hb.size) (BytesAt.below ha hb hB) (bytes_none _ _)))
  have HK := hide (fun W => keyCheck_any x.key W (by omega))
  have HC := hide (fun W (hb : Below w.heap.size w W) => slotCheck_any x.state x.ikey x.cell x.cv B W hik (Nat.le_trans hB hb.size) (BytesAt.below ha hb hB))
  have HE0 := hide (show undoE x = if (if x.act = 0 then undoZ x else if x.act = 1 then goodKey x.key && (decide (x.state = 1 ∨ x.state = 2) && (rightI x.state x.ikey x.cell && ((x.ikey.toList == x.key.toList) && (x.n == 0)))) else decide (x.act = 2 ∨ x.act = 3) && (goodKey x.key && (decide (0 ≤ x.n) && itemZ x.state x.ikey x.cell))) = true then 0 else 1 from rfl)
  have HK1 := hide (show keyE x.key = if goodKey x.key = true then 0 else 1 from rfl)
  have HC1 := hide (show itemE x.state x.ikey x.cell = if rightI x.state x.ikey x.cell = true then 0 else 1 from rfl)
  obtain ⟨A, n, c, e1, junk⟩ := ha
  clear junk
  generalize undoE x = ie at *
  generalize undoZ x = z at *
  obtain ⟨a1, a2, a3, a4, ⟨c1, c2, c3, c4, c5⟩, a6, a7⟩ := x
  dsimp only at *
  subst e1
  generalize keyE a2 = ke at *
  generalize itemE a3 a4 _ = ce at *
  generalize goodKey a2 = g at *
  generalize rightI a3 a4 _ = r at *
  generalize itemZ a3 a4 _ = iz at *
  unfold undoV at *
  dsimp only [itemV] at *
  cases hA0 : (a1 == 0)
  · cases hA1 : (a1 == 1)
    · cases hA2 : (a1 == 2)
      · cases hA3 : (a1 == 3)
        · clear HS HI HK HC
          go_enter Tryz.func172, Tryz.ntmps172
          go_wp2_with fail
          go_ret
          refine ⟨ret_int ?_, hb1 _⟩
          rw [HE0.out]
          simp only [beq_eq_false_iff_ne, ne_eq] at hA0 hA1 hA2 hA3
          rw [if_neg hA0, if_neg hA1, show decide (a1 = 2 ∨ a1 = 3) = false by simp [hA2, hA3]]
          rfl
        · clear HS HC
          go_enter Tryz.func172, Tryz.ntmps172
          go_wp2_with fail
          refine (HK.out _).mono ?_
          rintro e w1 ⟨rfl, hb3⟩
          have kb := Blk.via hb3 (Blk.new w 39 _)
          have q1 : w1.cell? ⟨w.heap.size, 1, none⟩ = some _ := kb.cell 1
          have q2 : w1.cell? ⟨w.heap.size, 2, none⟩ = some _ := kb.cell 2
          have q3 : w1.cell? ⟨w.heap.size, 3, none⟩ = some _ := kb.cell 3
          have q4 : w1.cell? ⟨w.heap.size, 4, none⟩ = some _ := kb.cell 4
          have q5 : w1.cell? ⟨w.heap.size, 5, none⟩ = some _ := kb.cell 5
          have q6 : w1.cell? ⟨w.heap.size, 6, none⟩ = some _ := kb.cell 6
          have q7 : w1.cell? ⟨w.heap.size, 7, none⟩ = some _ := kb.cell 7
          have q8 : w1.cell? ⟨w.heap.size, 8, none⟩ = some _ := kb.cell 8
          have q9 : w1.cell? ⟨w.heap.size, 9, none⟩ = some _ := kb.cell 9
          have hb3' := below_via (hb1 _) hb3 (by simp)
          have KB := hide kb
          have kl := kb.lt
          clear kb hb3
          cases g
          · obtain rfl : ke = 1 := HK1.out
            go_wp2_with fail
            go_ret
            refine ⟨ret_int ?_, by first | assumption | exact hb1 _⟩
            have h1 := HE0.out
            simp only [beq_eq_false_iff_ne, ne_eq] at hA0 hA1
            rw [h1, if_neg hA0, if_neg hA1, show decide (a1 = 2 ∨ a1 = 3) = true by simp at hA3; simp [hA3]]
            simp []
          · obtain rfl : ke = 0 := HK1.out
            by_cases hN : 0 ≤ a7
            · go_wp2_with fail
              refine (HI.out _ hb3').mono ?_
              rintro e w2 ⟨rfl, hb4⟩
              have hb4' := below_via hb3' hb4 hb3'.size
              clear hb4
              cases iz
              · go_wp2_with fail
                go_ret
                refine ⟨ret_int ?_, by first | assumption | exact hb1 _⟩
                have h1 := HE0.out
                simp only [beq_eq_false_iff_ne, ne_eq] at hA0 hA1
                rw [h1, if_neg hA0, if_neg hA1, show decide (a1 = 2 ∨ a1 = 3) = true by simp at hA3; simp [hA3]]
                simp [hN]
              · go_wp2_with fail
                go_ret
                refine ⟨ret_int ?_, by first | assumption | exact hb1 _⟩
                have h1 := HE0.out
                simp only [beq_eq_false_iff_ne, ne_eq] at hA0 hA1
                rw [h1, if_neg hA0, if_neg hA1, show decide (a1 = 2 ∨ a1 = 3) = true by simp at hA3; simp [hA3]]
                simp [hN]
            · have HN := hide (show decide (0 ≤ a7) = false by simp [hN])
              go_wp2_with fail
              go_ret
              refine ⟨ret_int ?_, by first | assumption | exact hb1 _⟩
              have h1 := HE0.out
              simp only [beq_eq_false_iff_ne, ne_eq] at hA0 hA1
              rw [h1, if_neg hA0, if_neg hA1, show decide (a1 = 2 ∨ a1 = 3) = true by simp at hA3; simp [hA3], HN.out]
              rfl
      · clear HS HC
        go_enter Tryz.func172, Tryz.ntmps172
        go_wp2_with fail
        refine (HK.out _).mono ?_
        rintro e w1 ⟨rfl, hb3⟩
        have kb := Blk.via hb3 (Blk.new w 39 _)
        have q1 : w1.cell? ⟨w.heap.size, 1, none⟩ = some _ := kb.cell 1
        have q2 : w1.cell? ⟨w.heap.size, 2, none⟩ = some _ := kb.cell 2
        have q3 : w1.cell? ⟨w.heap.size, 3, none⟩ = some _ := kb.cell 3
        have q4 : w1.cell? ⟨w.heap.size, 4, none⟩ = some _ := kb.cell 4
        have q5 : w1.cell? ⟨w.heap.size, 5, none⟩ = some _ := kb.cell 5
        have q6 : w1.cell? ⟨w.heap.size, 6, none⟩ = some _ := kb.cell 6
        have q7 : w1.cell? ⟨w.heap.size, 7, none⟩ = some _ := kb.cell 7
        have q8 : w1.cell? ⟨w.heap.size, 8, none⟩ = some _ := kb.cell 8
        have q9 : w1.cell? ⟨w.heap.size, 9, none⟩ = some _ := kb.cell 9
        have hb3' := below_via (hb1 _) hb3 (by simp)
        have KB := hide kb
        have kl := kb.lt
        clear kb hb3
        cases g
        · obtain rfl : ke = 1 := HK1.out
          go_wp2_with fail
          go_ret
          refine ⟨ret_int ?_, by first | assumption | exact hb1 _⟩
          have h1 := HE0.out
          simp only [beq_eq_false_iff_ne, ne_eq] at hA0 hA1
          rw [h1, if_neg hA0, if_neg hA1, show decide (a1 = 2 ∨ a1 = 3) = true by simp at hA2; simp [hA2]]
          simp []
        · obtain rfl : ke = 0 := HK1.out
          by_cases hN : 0 ≤ a7
          · go_wp2_with fail
            refine (HI.out _ hb3').mono ?_
            rintro e w2 ⟨rfl, hb4⟩
            have hb4' := below_via hb3' hb4 hb3'.size
            clear hb4
            cases iz
            · go_wp2_with fail
              go_ret
              refine ⟨ret_int ?_, by first | assumption | exact hb1 _⟩
              have h1 := HE0.out
              simp only [beq_eq_false_iff_ne, ne_eq] at hA0 hA1
              rw [h1, if_neg hA0, if_neg hA1, show decide (a1 = 2 ∨ a1 = 3) = true by simp at hA2; simp [hA2]]
              simp [hN]
            · go_wp2_with fail
              go_ret
              refine ⟨ret_int ?_, by first | assumption | exact hb1 _⟩
              have h1 := HE0.out
              simp only [beq_eq_false_iff_ne, ne_eq] at hA0 hA1
              rw [h1, if_neg hA0, if_neg hA1, show decide (a1 = 2 ∨ a1 = 3) = true by simp at hA2; simp [hA2]]
              simp [hN]
          · have HN := hide (show decide (0 ≤ a7) = false by simp [hN])
            go_wp2_with fail
            go_ret
            refine ⟨ret_int ?_, by first | assumption | exact hb1 _⟩
            have h1 := HE0.out
            simp only [beq_eq_false_iff_ne, ne_eq] at hA0 hA1
            rw [h1, if_neg hA0, if_neg hA1, show decide (a1 = 2 ∨ a1 = 3) = true by simp at hA2; simp [hA2], HN.out]
            rfl
    · clear HS HI
      cases hS1 : (a3 == 1)
      · cases hS2 : (a3 == 2)
        · go_enter Tryz.func172, Tryz.ntmps172
          go_wp2_with fail
          refine (HK.out _).mono ?_
          rintro e w1 ⟨rfl, hb3⟩
          have kb := Blk.via hb3 (Blk.new w 39 _)
          have q1 : w1.cell? ⟨w.heap.size, 1, none⟩ = some _ := kb.cell 1
          have q2 : w1.cell? ⟨w.heap.size, 2, none⟩ = some _ := kb.cell 2
          have q3 : w1.cell? ⟨w.heap.size, 3, none⟩ = some _ := kb.cell 3
          have q4 : w1.cell? ⟨w.heap.size, 4, none⟩ = some _ := kb.cell 4
          have q5 : w1.cell? ⟨w.heap.size, 5, none⟩ = some _ := kb.cell 5
          have q6 : w1.cell? ⟨w.heap.size, 6, none⟩ = some _ := kb.cell 6
          have q7 : w1.cell? ⟨w.heap.size, 7, none⟩ = some _ := kb.cell 7
          have q8 : w1.cell? ⟨w.heap.size, 8, none⟩ = some _ := kb.cell 8
          have q9 : w1.cell? ⟨w.heap.size, 9, none⟩ = some _ := kb.cell 9
          have hb3' := below_via (hb1 _) hb3 (by simp)
          have KB := hide kb
          have kl := kb.lt
          clear kb hb3
          cases g
          · obtain rfl : ke = 1 := HK1.out
            go_wp2_with fail
            go_ret
            refine ⟨ret_int ?_, by first | assumption | exact hb1 _⟩
            have h1 := HE0.out
            clear HE0 HK HC hb1 hb3'
            try clear KB
            try clear HK1
            try clear HC1
            try clear q1 q2 q3 q4 q5 q6 q7 q8 q9 kl
            try clear s1 s3 s9
            try clear hb4'
            rw [h1]
            clear h1
            simp only [beq_eq_false_iff_ne, beq_iff_eq, ne_eq] at hA0 hA1
            (rw [if_neg hA0, if_pos hA1]; rfl)
          · obtain rfl : ke = 0 := HK1.out
            go_wp2_with fail
            go_ret
            refine ⟨ret_int ?_, by first | assumption | exact hb1 _⟩
            have h1 := HE0.out
            clear HE0 HK HC hb1 hb3'
            try clear KB
            try clear HK1
            try clear HC1
            try clear q1 q2 q3 q4 q5 q6 q7 q8 q9 kl
            try clear s1 s3 s9
            try clear hb4'
            rw [h1]
            clear h1
            simp only [beq_eq_false_iff_ne, beq_iff_eq, ne_eq] at hA0 hA1
            (rw [if_neg hA0, if_pos hA1, show decide (a3 = 1 ∨ a3 = 2) = false by simp at hS1 hS2; simp [hS1, hS2]]; simp)
        · go_enter Tryz.func172, Tryz.ntmps172
          go_wp2_with fail
          refine (HK.out _).mono ?_
          rintro e w1 ⟨rfl, hb3⟩
          have kb := Blk.via hb3 (Blk.new w 39 _)
          have q1 : w1.cell? ⟨w.heap.size, 1, none⟩ = some _ := kb.cell 1
          have q2 : w1.cell? ⟨w.heap.size, 2, none⟩ = some _ := kb.cell 2
          have q3 : w1.cell? ⟨w.heap.size, 3, none⟩ = some _ := kb.cell 3
          have q4 : w1.cell? ⟨w.heap.size, 4, none⟩ = some _ := kb.cell 4
          have q5 : w1.cell? ⟨w.heap.size, 5, none⟩ = some _ := kb.cell 5
          have q6 : w1.cell? ⟨w.heap.size, 6, none⟩ = some _ := kb.cell 6
          have q7 : w1.cell? ⟨w.heap.size, 7, none⟩ = some _ := kb.cell 7
          have q8 : w1.cell? ⟨w.heap.size, 8, none⟩ = some _ := kb.cell 8
          have q9 : w1.cell? ⟨w.heap.size, 9, none⟩ = some _ := kb.cell 9
          have hb3' := below_via (hb1 _) hb3 (by simp)
          have KB := hide kb
          have kl := kb.lt
          clear kb hb3
          cases g
          · obtain rfl : ke = 1 := HK1.out
            go_wp2_with fail
            go_ret
            refine ⟨ret_int ?_, by first | assumption | exact hb1 _⟩
            have h1 := HE0.out
            clear HE0 HK HC hb1 hb3'
            try clear KB
            try clear HK1
            try clear HC1
            try clear q1 q2 q3 q4 q5 q6 q7 q8 q9 kl
            try clear s1 s3 s9
            try clear hb4'
            rw [h1]
            clear h1
            simp only [beq_eq_false_iff_ne, beq_iff_eq, ne_eq] at hA0 hA1
            (rw [if_neg hA0, if_pos hA1]; rfl)
          · obtain rfl : ke = 0 := HK1.out
            go_wp2_with fail
            refine (HC.out _ hb3').mono ?_
            rintro e w2 ⟨rfl, hb4⟩
            have kb := Blk.via hb4 KB.out
            have s1 : w2.cell? ⟨w.heap.size, 1, none⟩ = some _ := kb.cell 1
            have s3 : w2.cell? ⟨w.heap.size, 3, none⟩ = some _ := kb.cell 3
            have s9 : w2.cell? ⟨w.heap.size, 9, none⟩ = some _ := kb.cell 9
            have hb4' := below_via hb3' hb4 hb3'.size
            clear kb hb4
            clear q1 q2 q3 q4 q5 q6 q7 q8 q9
            cases r
            · obtain rfl : ce = 1 := HC1.out
              go_wp2_with fail
              go_ret
              refine ⟨ret_int ?_, by first | assumption | exact hb1 _⟩
              have h1 := HE0.out
              clear HE0 HK HC hb1 hb3'
              try clear KB
              try clear HK1
              try clear HC1
              try clear q1 q2 q3 q4 q5 q6 q7 q8 q9 kl
              try clear s1 s3 s9
              try clear hb4'
              rw [h1]
              clear h1
              simp only [beq_eq_false_iff_ne, beq_iff_eq, ne_eq] at hA0 hA1
              (rw [if_neg hA0, if_pos hA1, show decide (a3 = 1 ∨ a3 = 2) = true by simp at hS2; simp [hS2]]; rfl)
            · obtain rfl : ce = 0 := HC1.out
              cases hE : (a4.toList == a2.toList)
              · go_wp2_with fail
                go_ret
                refine ⟨ret_int ?_, by first | assumption | exact hb1 _⟩
                have h1 := HE0.out
                clear HE0 HK HC hb1 hb3'
                try clear KB
                try clear HK1
                try clear HC1
                try clear q1 q2 q3 q4 q5 q6 q7 q8 q9 kl
                try clear s1 s3 s9
                try clear hb4'
                rw [h1]
                clear h1
                simp only [beq_eq_false_iff_ne, beq_iff_eq, ne_eq] at hA0 hA1
                (rw [if_neg hA0, if_pos hA1, show decide (a3 = 1 ∨ a3 = 2) = true by simp at hS2; simp [hS2], hE]; rfl)
              · cases hN : (a7 == 0)
                · go_wp2_with fail
                  go_ret
                  refine ⟨ret_int ?_, by first | assumption | exact hb1 _⟩
                  have h1 := HE0.out
                  clear HE0 HK HC hb1 hb3'
                  try clear KB
                  try clear HK1
                  try clear HC1
                  try clear q1 q2 q3 q4 q5 q6 q7 q8 q9 kl
                  try clear s1 s3 s9
                  try clear hb4'
                  rw [h1]
                  clear h1
                  simp only [beq_eq_false_iff_ne, beq_iff_eq, ne_eq] at hA0 hA1
                  (rw [if_neg hA0, if_pos hA1, show decide (a3 = 1 ∨ a3 = 2) = true by simp at hS2; simp [hS2], hE, hN]; rfl)
                · go_wp2_with fail
                  go_ret
                  refine ⟨ret_int ?_, by first | assumption | exact hb1 _⟩
                  have h1 := HE0.out
                  clear HE0 HK HC hb1 hb3'
                  try clear KB
                  try clear HK1
                  try clear HC1
                  try clear q1 q2 q3 q4 q5 q6 q7 q8 q9 kl
                  try clear s1 s3 s9
                  try clear hb4'
                  rw [h1]
                  clear h1
                  simp only [beq_eq_false_iff_ne, beq_iff_eq, ne_eq] at hA0 hA1
                  (rw [if_neg hA0, if_pos hA1, show decide (a3 = 1 ∨ a3 = 2) = true by simp at hS2; simp [hS2], hE, hN]; rfl)
      · go_enter Tryz.func172, Tryz.ntmps172
        go_wp2_with fail
        refine (HK.out _).mono ?_
        rintro e w1 ⟨rfl, hb3⟩
        have kb := Blk.via hb3 (Blk.new w 39 _)
        have q1 : w1.cell? ⟨w.heap.size, 1, none⟩ = some _ := kb.cell 1
        have q2 : w1.cell? ⟨w.heap.size, 2, none⟩ = some _ := kb.cell 2
        have q3 : w1.cell? ⟨w.heap.size, 3, none⟩ = some _ := kb.cell 3
        have q4 : w1.cell? ⟨w.heap.size, 4, none⟩ = some _ := kb.cell 4
        have q5 : w1.cell? ⟨w.heap.size, 5, none⟩ = some _ := kb.cell 5
        have q6 : w1.cell? ⟨w.heap.size, 6, none⟩ = some _ := kb.cell 6
        have q7 : w1.cell? ⟨w.heap.size, 7, none⟩ = some _ := kb.cell 7
        have q8 : w1.cell? ⟨w.heap.size, 8, none⟩ = some _ := kb.cell 8
        have q9 : w1.cell? ⟨w.heap.size, 9, none⟩ = some _ := kb.cell 9
        have hb3' := below_via (hb1 _) hb3 (by simp)
        have KB := hide kb
        have kl := kb.lt
        clear kb hb3
        cases g
        · obtain rfl : ke = 1 := HK1.out
          go_wp2_with fail
          go_ret
          refine ⟨ret_int ?_, by first | assumption | exact hb1 _⟩
          have h1 := HE0.out
          clear HE0 HK HC hb1 hb3'
          try clear KB
          try clear HK1
          try clear HC1
          try clear q1 q2 q3 q4 q5 q6 q7 q8 q9 kl
          try clear s1 s3 s9
          try clear hb4'
          rw [h1]
          clear h1
          simp only [beq_eq_false_iff_ne, beq_iff_eq, ne_eq] at hA0 hA1
          (rw [if_neg hA0, if_pos hA1]; rfl)
        · obtain rfl : ke = 0 := HK1.out
          go_wp2_with fail
          refine (HC.out _ hb3').mono ?_
          rintro e w2 ⟨rfl, hb4⟩
          have kb := Blk.via hb4 KB.out
          have s1 : w2.cell? ⟨w.heap.size, 1, none⟩ = some _ := kb.cell 1
          have s3 : w2.cell? ⟨w.heap.size, 3, none⟩ = some _ := kb.cell 3
          have s9 : w2.cell? ⟨w.heap.size, 9, none⟩ = some _ := kb.cell 9
          have hb4' := below_via hb3' hb4 hb3'.size
          clear kb hb4
          clear q1 q2 q3 q4 q5 q6 q7 q8 q9
          cases r
          · obtain rfl : ce = 1 := HC1.out
            go_wp2_with fail
            go_ret
            refine ⟨ret_int ?_, by first | assumption | exact hb1 _⟩
            have h1 := HE0.out
            clear HE0 HK HC hb1 hb3'
            try clear KB
            try clear HK1
            try clear HC1
            try clear q1 q2 q3 q4 q5 q6 q7 q8 q9 kl
            try clear s1 s3 s9
            try clear hb4'
            rw [h1]
            clear h1
            simp only [beq_eq_false_iff_ne, beq_iff_eq, ne_eq] at hA0 hA1
            (rw [if_neg hA0, if_pos hA1, show decide (a3 = 1 ∨ a3 = 2) = true by simp at hS1; simp [hS1]]; rfl)
          · obtain rfl : ce = 0 := HC1.out
            cases hE : (a4.toList == a2.toList)
            · go_wp2_with fail
              go_ret
              refine ⟨ret_int ?_, by first | assumption | exact hb1 _⟩
              have h1 := HE0.out
              clear HE0 HK HC hb1 hb3'
              try clear KB
              try clear HK1
              try clear HC1
              try clear q1 q2 q3 q4 q5 q6 q7 q8 q9 kl
              try clear s1 s3 s9
              try clear hb4'
              rw [h1]
              clear h1
              simp only [beq_eq_false_iff_ne, beq_iff_eq, ne_eq] at hA0 hA1
              (rw [if_neg hA0, if_pos hA1, show decide (a3 = 1 ∨ a3 = 2) = true by simp at hS1; simp [hS1], hE]; rfl)
            · cases hN : (a7 == 0)
              · go_wp2_with fail
                go_ret
                refine ⟨ret_int ?_, by first | assumption | exact hb1 _⟩
                have h1 := HE0.out
                clear HE0 HK HC hb1 hb3'
                try clear KB
                try clear HK1
                try clear HC1
                try clear q1 q2 q3 q4 q5 q6 q7 q8 q9 kl
                try clear s1 s3 s9
                try clear hb4'
                rw [h1]
                clear h1
                simp only [beq_eq_false_iff_ne, beq_iff_eq, ne_eq] at hA0 hA1
                (rw [if_neg hA0, if_pos hA1, show decide (a3 = 1 ∨ a3 = 2) = true by simp at hS1; simp [hS1], hE, hN]; rfl)
              · go_wp2_with fail
                go_ret
                refine ⟨ret_int ?_, by first | assumption | exact hb1 _⟩
                have h1 := HE0.out
                clear HE0 HK HC hb1 hb3'
                try clear KB
                try clear HK1
                try clear HC1
                try clear q1 q2 q3 q4 q5 q6 q7 q8 q9 kl
                try clear s1 s3 s9
                try clear hb4'
                rw [h1]
                clear h1
                simp only [beq_eq_false_iff_ne, beq_iff_eq, ne_eq] at hA0 hA1
                (rw [if_neg hA0, if_pos hA1, show decide (a3 = 1 ∨ a3 = 2) = true by simp at hS1; simp [hS1], hE, hN]; rfl)
  · clear HK HC HI
    go_enter Tryz.func172, Tryz.ntmps172
    cases z
    · go_wp2_with fail
      refine (HS.out _).mono ?_
      rintro e w' ⟨rfl, hb3⟩
      have hb3' := below_via (hb1 _) hb3 (by simp)
      clear hb3
      go_wp2_with fail
      go_ret
      have hA : a1 = 0 := by simpa using hA0
      exact ⟨ret_int (by rw [HE0.out, if_pos hA]; rfl), hb3'⟩
    · go_wp2_with fail
      refine (HS.out _).mono ?_
      rintro e w' ⟨rfl, hb3⟩
      have hb3' := below_via (hb1 _) hb3 (by simp)
      clear hb3
      go_wp2_with fail
      go_ret
      have hA : a1 = 0 := by simpa using hA0
      exact ⟨ret_int (by rw [HE0.out, if_pos hA]; rfl), hb3'⟩
end Go.Proofs.YtnanlaefehaifaaGreat
