/- The abstract code is the code of the program: each function is checked. -/
import Derived.Test.YtebmnnbjfjadaaaGreatDoorCode3
import Derived.Test.YtebmnnbjfjadaaaGreatDoorProg
import Derived.KernelRfl
namespace Go.Ab
set_option maxRecDepth 100000
theorem k190 : chkFn Go.Proofs.Tryz.prog 1 190 c190 = true := by kernel_rfl
theorem k191 : chkFn Go.Proofs.Tryz.prog 1 191 c191 = true := by kernel_rfl
theorem k192 : chkFn Go.Proofs.Tryz.prog 1 192 c192 = true := by kernel_rfl
theorem k193 : chkFn Go.Proofs.Tryz.prog 1 193 c193 = true := by kernel_rfl
theorem k194 : chkFn Go.Proofs.Tryz.prog 1 194 c194 = true := by kernel_rfl
theorem k196 : chkFn Go.Proofs.Tryz.prog 1 196 c196 = true := by kernel_rfl
theorem k198 : chkFn Go.Proofs.Tryz.prog 1 198 c198 = true := by kernel_rfl
theorem k200 : chkFn Go.Proofs.Tryz.prog 1 200 c200 = true := by kernel_rfl
theorem k201 : chkFn Go.Proofs.Tryz.prog 1 201 c201 = true := by kernel_rfl
theorem k202 : chkFn Go.Proofs.Tryz.prog 1 202 c202 = true := by kernel_rfl
theorem k220 : chkFn Go.Proofs.Tryz.prog 1 220 c220 = true := by kernel_rfl
theorem k221 : chkFn Go.Proofs.Tryz.prog 1 221 c221 = true := by kernel_rfl
theorem k222 : chkFn Go.Proofs.Tryz.prog 1 222 c222 = true := by kernel_rfl
theorem k223 : chkFn Go.Proofs.Tryz.prog 1 223 c223 = true := by kernel_rfl
theorem k224 : chkFn Go.Proofs.Tryz.prog 1 224 c224 = true := by kernel_rfl
theorem k225 : chkFn Go.Proofs.Tryz.prog 1 225 c225 = true := by kernel_rfl
theorem k226 : chkFn Go.Proofs.Tryz.prog 1 226 c226 = true := by kernel_rfl
theorem k227 : chkFn Go.Proofs.Tryz.prog 1 227 c227 = true := by kernel_rfl
theorem k231 : chkFn Go.Proofs.Tryz.prog 1 231 c231 = true := by kernel_rfl
theorem k232 : chkFn Go.Proofs.Tryz.prog 1 232 c232 = true := by kernel_rfl
theorem k233 : chkFn Go.Proofs.Tryz.prog 1 233 c233 = true := by kernel_rfl
theorem k234 : chkFn Go.Proofs.Tryz.prog 1 234 c234 = true := by kernel_rfl
theorem k235 : chkFn Go.Proofs.Tryz.prog 1 235 c235 = true := by kernel_rfl
theorem k236 : chkFn Go.Proofs.Tryz.prog 1 236 c236 = true := by kernel_rfl
theorem k237 : chkFn Go.Proofs.Tryz.prog 1 237 c237 = true := by kernel_rfl
theorem k238 : chkFn Go.Proofs.Tryz.prog 1 238 c238 = true := by kernel_rfl
theorem k239 : chkFn Go.Proofs.Tryz.prog 1 239 c239 = true := by kernel_rfl
theorem k240 : chkFn Go.Proofs.Tryz.prog 1 240 c240 = true := by kernel_rfl
theorem k241 : chkFn Go.Proofs.Tryz.prog 1 241 c241 = true := by kernel_rfl
theorem k242 : chkFn Go.Proofs.Tryz.prog 1 242 c242 = true := by kernel_rfl
theorem k243 : chkFn Go.Proofs.Tryz.prog 1 243 c243 = true := by kernel_rfl
theorem k244 : chkFn Go.Proofs.Tryz.prog 1 244 c244 = true := by kernel_rfl
theorem k245 : chkFn Go.Proofs.Tryz.prog 1 245 c245 = true := by kernel_rfl
theorem k246 : chkFn Go.Proofs.Tryz.prog 1 246 c246 = true := by kernel_rfl
theorem k247 : chkFn Go.Proofs.Tryz.prog 1 247 c247 = true := by kernel_rfl
theorem k248 : chkFn Go.Proofs.Tryz.prog 1 248 c248 = true := by kernel_rfl
theorem k249 : chkFn Go.Proofs.Tryz.prog 1 249 c249 = true := by kernel_rfl
theorem k250 : chkFn Go.Proofs.Tryz.prog 1 250 c250 = true := by kernel_rfl
theorem k251 : chkFn Go.Proofs.Tryz.prog 1 251 c251 = true := by kernel_rfl
theorem k252 : chkFn Go.Proofs.Tryz.prog 1 252 c252 = true := by kernel_rfl
theorem k253 : chkFn Go.Proofs.Tryz.prog 1 253 c253 = true := by kernel_rfl
theorem k254 : chkFn Go.Proofs.Tryz.prog 1 254 c254 = true := by kernel_rfl
theorem k255 : chkFn Go.Proofs.Tryz.prog 1 255 c255 = true := by kernel_rfl
theorem k256 : chkFn Go.Proofs.Tryz.prog 1 256 c256 = true := by kernel_rfl
theorem k257 : chkFn Go.Proofs.Tryz.prog 1 257 c257 = true := by kernel_rfl
theorem k258 : chkFn Go.Proofs.Tryz.prog 1 258 c258 = true := by kernel_rfl
theorem k259 : chkFn Go.Proofs.Tryz.prog 1 259 c259 = true := by kernel_rfl
theorem k260 : chkFn Go.Proofs.Tryz.prog 1 260 c260 = true := by kernel_rfl
theorem k261 : chkFn Go.Proofs.Tryz.prog 1 261 c261 = true := by kernel_rfl
theorem k262 : chkFn Go.Proofs.Tryz.prog 1 262 c262 = true := by kernel_rfl
theorem k263 : chkFn Go.Proofs.Tryz.prog 1 263 c263 = true := by kernel_rfl
theorem k264 : chkFn Go.Proofs.Tryz.prog 1 264 c264 = true := by kernel_rfl
theorem k265 : chkFn Go.Proofs.Tryz.prog 1 265 c265 = true := by kernel_rfl
theorem k266 : chkFn Go.Proofs.Tryz.prog 1 266 c266 = true := by kernel_rfl
theorem k267 : chkFn Go.Proofs.Tryz.prog 1 267 c267 = true := by kernel_rfl
theorem k268 : chkFn Go.Proofs.Tryz.prog 1 268 c268 = true := by kernel_rfl
theorem k269 : chkFn Go.Proofs.Tryz.prog 1 269 c269 = true := by kernel_rfl
theorem k270 : chkFn Go.Proofs.Tryz.prog 1 270 c270 = true := by kernel_rfl
theorem k271 : chkFn Go.Proofs.Tryz.prog 1 271 c271 = true := by kernel_rfl
theorem k272 : chkFn Go.Proofs.Tryz.prog 1 272 c272 = true := by kernel_rfl
theorem k273 : chkFn Go.Proofs.Tryz.prog 1 273 c273 = true := by kernel_rfl
end Go.Ab
